/-
  What is proved here: the document's For.
  No condition: each lemma names its own.
-/
import Derived.Test.YtipfjjcokajjjaaDoorRfG
set_option linter.unusedVariables false
set_option linter.unusedSimpArgs false
namespace Go.Proofs.YtipfjjcokajjjaaDoor
open Go.RowKit

/-- Who is met, by number. -/
structure InAt (arr : Array Value) (S : Nat → Bool) : Prop where
  size : arr.size = 1001
  cell : ∀ k, k < 1001 → arr[k]? = some (.bool (S k))
theorem InAt.set {arr : Array Value} {S : Nat → Bool} (h : InAt arr S) {k : Nat} (hk : k < 1001) : InAt (arr.setIfInBounds k (.bool true)) (fun j => decide (j = k) || S j) := by
  refine ⟨by rw [Array.size_setIfInBounds]; exact h.size, fun j hj => ?_⟩
  by_cases e : j = k
  · subst e
    rw [Array.getElem?_setIfInBounds_self_of_lt (by rw [h.size]; exact hk)]
    simp
  · rw [Array.getElem?_setIfInBounds_ne (by omega), h.cell j hj]
    simp [e]
theorem Tryd.zeroIn : Tryd.zeroCells86 = Array.replicate 1001 (Value.bool false) := by kernel_rfl
theorem in_start : InAt Tryd.zeroCells86 (fun _ => false) := by
  rw [Tryd.zeroIn]
  refine ⟨Array.size_replicate, fun k hk => ?_⟩
  rw [Array.getElem?_replicate, if_pos hk]

/-- For whom h waits at one thing. -/
def IsForT (x : Th) (h o : Int) : Prop := ∃ m a b, x.q = a ++ (h, m) :: b ∧ ((∃ y ∈ a, y.1 = o) ∨ ∃ y ∈ x.has, y.1 = o ∧ barsB y h m = true)
theorem isFor_next {t : Tab} {i : Nat} {x : Th} (hx : t[i]? = some x) (h o : Int) : IsFor (t.take (i + 1)) h o ↔ IsFor (t.take i) h o ∨ IsForT x h o := by
  unfold IsFor IsForT
  rw [List.take_add_one, hx]
  simp only [Option.toList, List.mem_append, List.mem_singleton]
  constructor
  · rintro ⟨y, hy | rfl, hr⟩
    · exact .inl ⟨y, hy, hr⟩
    · exact .inr hr
  · rintro (⟨y, hy, hr⟩ | hr)
    · exact ⟨y, .inl hy, hr⟩
    · exact ⟨x, .inr rfl, hr⟩
theorem isForT_iff {x : Th} (hx : Modes x.q) {k : Nat} {h m : Int} (hk : x.q[k]? = some (h, m)) (o : Int) :
    IsForT x h o ↔ (∃ y ∈ x.q.take k, y.1 = o) ∨ ∃ y ∈ x.has, y.1 = o ∧ barsB y h m = true := by
  constructor
  · rintro ⟨m', a, b, e, hor⟩
    have h3 : x.q[a.length]? = some (h, m') := by rw [e]; simp
    have hl := modes_idx hx h3 hk rfl
    subst hl
    rw [h3] at hk
    cases hk
    have h4 : x.q.take a.length = a := by rw [e, List.take_left]
    rw [h4]
    exact hor
  · intro hor
    have hl := (List.getElem?_eq_some_iff.1 hk).1
    refine ⟨m, x.q.take k, x.q.drop (k + 1), ?_, hor⟩
    have : (h, m) = x.q[k] := (List.getElem?_eq_some_iff.1 hk).2.symm
    rw [this, List.getElem_cons_drop, List.take_append_drop]
theorem isForT_none {x : Th} (hx : Modes x.q) {h : Int} (hm : modeL x.q h = 0) (o : Int) : ¬ IsForT x h o := by
  rintro ⟨m, a, b, e, _⟩
  have : 0 < modeL x.q h := (modeL_pos hx).2 ⟨(h, m), by rw [e]; simp, rfl⟩
  omega
theorem isFor_range {t : Tab} (hg : Good t) {h o : Int} (hf : IsFor t h o) : 1 ≤ o ∧ o ≤ 1000 := by
  obtain ⟨x, hx, m, a, b, e, hor⟩ := hf
  have hgx := hg.each x hx
  rcases hor with ⟨y, hy, rfl⟩ | ⟨y, hy, rfl, _⟩
  · have := hgx.q.2 y (by rw [e]; simp [hy])
    exact ⟨this.1, this.2.1⟩
  · have := hgx.has.2 y hy
    exact ⟨this.1, this.2.1⟩
theorem rmode_idx {q : HM} (hq : Modes q) {h : Int} (hm : modeL q h ≠ 0) : ∃ k : Nat, q[k]? = some (h, modeL q h) := by
  rcases modeL_cases hq h with ⟨a, _⟩ | ⟨_, b⟩
  · exact absurd a hm
  · exact List.getElem?_of_mem b

/-- The numbers from one on, below i, that are met. -/
def outN (S : Nat → Bool) (i : Nat) : List Int := ((List.range i).filter (fun k => decide (1 ≤ k) && S k)).map (fun (k : Nat) => (k : Int))
theorem outN_one (S : Nat → Bool) : outN S 1 = [] := rfl
theorem outN_next (S : Nat → Bool) {i : Nat} (hi : 1 ≤ i) : outN S (i + 1) = outN S i ++ (if S i then [(i : Int)] else []) := by
  unfold outN
  rw [List.range_succ, List.filter_append, List.map_append]
  congr 1
  cases hs : S i <;> simp [hs, hi]
theorem outN_len (S : Nat → Bool) (i : Nat) : (outN S i).length ≤ i := by
  unfold outN
  rw [List.length_map]
  exact Nat.le_trans (List.length_filter_le _ _) (Nat.le_of_eq List.length_range)
theorem outN_rising (S : Nat → Bool) (i : Nat) : Rising (outN S i) := by
  unfold outN Rising
  refine List.pairwise_map.2 ?_
  exact (List.pairwise_lt_range.filter _).imp (fun h => by omega)
theorem outN_mem (S : Nat → Bool) (i : Nat) (o : Int) : o ∈ outN S i ↔ ∃ k, k < i ∧ 1 ≤ k ∧ S k = true ∧ o = (k : Int) := by
  unfold outN
  simp only [List.mem_map, List.mem_filter, List.mem_range, Bool.and_eq_true, decide_eq_true_eq]
  constructor
  · rintro ⟨k, ⟨h1, h2, h3⟩, rfl⟩; exact ⟨k, h1, h2, h3, rfl⟩
  · rintro ⟨k, h1, h2, h3, rfl⟩; exact ⟨k, ⟨h1, h2, h3⟩, rfl⟩

set_option maxRecDepth 100000 in
set_option maxHeartbeats 4000000 in
theorem rFor_any {w W : World} {L : List Res} {b : Nat} {t : Tab} (hg : Good t) (h : Int) (hs : Sep w W (refRes b t :: L)) :
    Calls Tryd.prog 23 #[.pointer (some ⟨b, 0, none⟩), .int .i64 h] W fun e W' =>
      ∃ xs p q, e = .returned (.slice p (List.length xs) q) ∧ Rising xs ∧ (∀ o, o ∈ xs ↔ IsFor t h o) ∧ Sep w W' (rowRes 3 1 (.slice p xs.length q) xs.length (intCells xs) :: refRes b t :: L) := by
  obtain ⟨ii, II⟩ := info_of Tryd.infoInt
  obtain ⟨p, q, tv, hs0, ht⟩ := ref_open hs
  obtain ⟨N, hN⟩ : ∃ N, N = t.length := ⟨_, rfl⟩
  have HN := Lib.hid hN
  have HT := Lib.hid ht
  have HG := Lib.hid hg
  rw [← hN] at hs0
  have hl : N ≤ 256 := by rw [hN]; exact hg.len
  have HAL : Hid (Sep w (W.alloc (.cells Tryd.zeroCells86 86)) (blkRes W.heap.size (.cells Tryd.zeroCells86 86 (0, 0)) :: openR b p N q tv L)) := hs0.alloc _ _
  clear hs hs0 ht hg hN
  go_enter Tryd.func23, Tryd.ntmps23
  go_upto_region 2 with fail
  obtain ⟨W1, hW1⟩ : ∃ V : World, V = W.alloc (.cells Tryd.zeroCells86 86) := ⟨_, rfl⟩
  rw [← hW1] at HAL ⊢
  obtain ⟨X, hX⟩ : ∃ X, X = W.heap.size := ⟨_, rfl⟩
  rw [← hX] at HAL ⊢
  clear hW1 hX
  go_upto_block 0 with fail
  go_cut [] (fun wx => ∃ (arr : Array Value) (S : Nat → Bool), Aside (InAt arr S) ∧ Aside (∀ k : Nat, k < 1001 → (S k = true ↔ IsFor t h k)) ∧ Aside (Sep w wx (blkRes X (.cells arr 86 (0, 0)) :: openR b p N q tv L)))
  case first =>
    go_wp2_with fail
    go_loopw [6] (fun s6 wr => ∃ (i : Nat) (arr : Array Value) (S : Nat → Bool), i ≤ N ∧ s6 = .int .i64 i ∧ Aside (InAt arr S) ∧ Aside (∀ k : Nat, k < 1001 → (S k = true ↔ IsFor (t.take i) h k)) ∧ Aside (Sep w wr (blkRes X (.cells arr 86 (0, 0)) :: openR b p N q tv L))) (fun s6 _ => N - (intOf s6).toNat)
    case atStart => exact ⟨0, _, fun _ => false, Nat.zero_le _, rfl, in_start, (fun k _ => Iff.intro (fun e => Bool.noConfusion e) (fun ⟨x, hx, _⟩ => absurd hx (by simp)) : ∀ k : Nat, k < 1001 → (false = true ↔ IsFor (t.take 0) h k)), HAL.out⟩
    case round =>
      obtain ⟨i, arr, S, hi, rfl, HI, HF, HS⟩ := hrel
      have HI : Hid (InAt arr S) := HI
      have HF : Hid (∀ k : Nat, k < 1001 → (S k = true ↔ IsFor (t.take i) h k)) := HF
      have HS : Hid (Sep w wr (blkRes X (.cells arr 86 (0, 0)) :: openR b p N q tv L)) := HS
      clear HAL
      obtain ⟨W2, hW2⟩ : ∃ V : World, V = wr := ⟨_, rfl⟩
      rw [← hW2] at HS ⊢
      clear hW2
      obtain ⟨b0, _⟩ := ref_tab HS.out.tail
      by_cases hlt : i < N
      · obtain ⟨x, hx⟩ : ∃ x, t[i]? = some x := ⟨t[i]'(by rw [← HN.out]; exact hlt), List.getElem?_eq_getElem _⟩
        obtain ⟨vh, vq, hy⟩ := tv_at HT.out hx
        obtain ⟨ph, NH, ch, rfl, hnh⟩ := (ref_held HS.out.tail hy).1.slice'
        obtain ⟨pq, NQ, cq, rfl, hnq⟩ := (ref_held HS.out.tail hy).2.slice'
        obtain ⟨g, rfl, ⟨c0, c1, c2⟩, _⟩ := ref_cells HS.out.tail hy
        have HNH := Lib.hid hnh
        have HNQ := Lib.hid hnq
        clear hnh hnq
        have hgx := HG.out.each x (List.mem_of_getElem? hx)
        have hlh := modes_len1 hgx.has
        have hlq := modes_len1 hgx.q
        have hNH : NH ≤ 1001 := by rw [HNH.out]; exact hlh
        have hNQ : NQ ≤ 1001 := by rw [HNQ.out]; exact hlq
        have HMO := Lib.hid (rmode_any W2 (ref_held HS.out.tail hy).2 (by omega) h)
        have HGX := Lib.hid hgx
        have HX := Lib.hid hx
        have HY := Lib.hid hy
        obtain ⟨m, hm⟩ : ∃ m, m = modeL x.q h := ⟨_, rfl⟩
        rw [← hm] at HMO
        have HM := Lib.hid hm
        clear hgx hx hy hm
        by_cases hm0 : m = 0
        · subst hm0
          have HF2 : Hid (∀ k : Nat, k < 1001 → (S k = true ↔ IsFor (t.take (i + 1)) h k)) := fun k hk => by
            rw [HF.out k hk, isFor_next HX.out]
            exact ⟨.inl, fun e => e.resolve_right (isForT_none HGX.out.q HM.out.symm _)⟩
          go_wp2_with (go_at_call 35; refine HMO.out.mono ?_; rintro e w2 ⟨rfl, rfl⟩)
          go_roundw
          case rel => exact ⟨i + 1, arr, S, by omega, by go_num, HI.out, HF2.out, HS.out⟩
          case measure => simp [intOf]; omega
        · obtain ⟨k0, hk0⟩ := rmode_idx HGX.out.q (h := h) (by rw [← HM.out]; exact hm0)
          rw [← HM.out] at hk0
          have HK0 := Lib.hid hk0
          have hk0q := (List.getElem?_eq_some_iff.1 hk0).1
          have hmb : (m == 0) = false := by rw [beq_eq_false_iff_ne]; exact hm0
          clear hk0
          go_upto_block 2 with (go_at_call 35; refine HMO.out.mono ?_; rintro e w2 ⟨rfl, rfl⟩)
          go_cut [] (fun wx => ∃ (arr : Array Value) (S : Nat → Bool), Aside (InAt arr S) ∧ Aside (∀ k : Nat, k < 1001 → (S k = true ↔ IsFor (t.take i) h k ∨ ∃ y ∈ x.has, y.1 = (k : Int) ∧ barsB y h m = true)) ∧ Aside (Sep w wx (blkRes X (.cells arr 86 (0, 0)) :: openR b (some ⟨g, 0, none⟩) N q tv L)))
          case first =>
            have HF1 : Hid (∀ k : Nat, k < 1001 → (S k = true ↔ IsFor (t.take i) h k ∨ ∃ y ∈ x.has.take 0, y.1 = (k : Int) ∧ barsB y h m = true)) := fun k hk => by rw [HF.out k hk]; simp
            go_wp2_with fail
            go_loopw [8] (fun s8 wr => ∃ (j : Nat) (arr : Array Value) (S : Nat → Bool), j ≤ NH ∧ s8 = .int .i64 j ∧ Aside (InAt arr S) ∧ Aside (∀ k : Nat, k < 1001 → (S k = true ↔ IsFor (t.take i) h k ∨ ∃ y ∈ x.has.take j, y.1 = (k : Int) ∧ barsB y h m = true)) ∧ Aside (Sep w wr (blkRes X (.cells arr 86 (0, 0)) :: openR b (some ⟨g, 0, none⟩) N q tv L))) (fun s8 _ => NH - (intOf s8).toNat)
            case atStart => exact ⟨0, arr, S, Nat.zero_le _, rfl, HI.out, HF1.out, HS.out⟩
            case round =>
              obtain ⟨j, arr, S, hj, rfl, HI, HFJ, HS3⟩ := hrel
              have HI : Hid (InAt arr S) := HI
              have HFJ : Hid (∀ k : Nat, k < 1001 → (S k = true ↔ IsFor (t.take i) h k ∨ ∃ y ∈ x.has.take j, y.1 = (k : Int) ∧ barsB y h m = true)) := HFJ
              have HS3 : Hid (Sep w wr (blkRes X (.cells arr 86 (0, 0)) :: openR b (some ⟨g, 0, none⟩) N q tv L)) := HS3
              obtain ⟨W3, hW3⟩ : ∃ V : World, V = wr := ⟨_, rfl⟩
              rw [← hW3] at HS3 ⊢
              clear hW3 b0 c0 c1 c2 HMO HF1
              obtain ⟨b0, _⟩ := ref_tab HS3.out.tail
              obtain ⟨_, eg, ⟨c0, c1, c2⟩, _⟩ := ref_cells HS3.out.tail HY.out
              cases eg
              by_cases hjlt : j < NH
              · obtain ⟨y, hy⟩ : ∃ y, x.has[j]? = some y := ⟨x.has[j]'(by rw [← HNH.out]; exact hjlt), List.getElem?_eq_getElem _⟩
                obtain ⟨hy1, hy2⟩ := wCells_at hy
                have hym := HGX.out.has.2 y (List.mem_of_getElem? hy)
                obtain ⟨y1, y2⟩ := y
                obtain ⟨n1, hn1⟩ : ∃ n1 : Nat, y1 = (n1 : Int) := ⟨y1.toNat, by have := hym.1; simp only at this; omega⟩
                subst hn1
                simp only at hy1 hy2 hym
                have hn1 : n1 < 1001 := by omega
                rcases (ref_held HS3.out.tail HY.out).1 with ⟨a, _⟩ | ⟨gh, oh, cc, a, _, _, _, hcl⟩
                · simp only [Value.slice.injEq] at a
                  omega
                simp only [Value.slice.injEq] at a
                obtain ⟨rfl, hx1, rfl⟩ := a
                clear hx1
                have d0 := hcl _ _ hy1
                have d1 := hcl _ _ hy2
                rw [← Nat.add_assoc] at d1
                have HB := Lib.hid (rbars_any W3 (n1 : Int) y2 h m)
                have HJ : Hid (x.has.take (j + 1) = x.has.take j ++ [((n1 : Int), y2)]) := by show _ = _; rw [List.take_add_one, hy]; rfl
                clear hy hcl
                have HY1 := Lib.hid hy1
                clear hy1 hy2 hym
                cases hbb : barsB ((n1 : Int), y2) h m with
                | true =>
                  rw [hbb] at HB
                  have HFN : Hid (∀ k : Nat, k < 1001 → ((decide (k = n1) || S k) = true ↔ IsFor (t.take i) h k ∨ ∃ y ∈ x.has.take (j + 1), y.1 = (k : Int) ∧ barsB y h m = true)) := by
                    intro k hk
                    rw [Bool.or_eq_true, decide_eq_true_eq, HFJ.out k hk, HJ.out]
                    constructor
                    · rintro (rfl | a | ⟨y, hy, hz⟩)
                      · exact .inr ⟨_, List.mem_append_right _ (List.mem_singleton.2 rfl), rfl, hbb⟩
                      · exact .inl a
                      · exact .inr ⟨y, List.mem_append_left _ hy, hz⟩
                    · rintro (a | ⟨y, hy, hz⟩)
                      · exact .inr (.inl a)
                      · rcases List.mem_append.1 hy with hy | hy
                        · exact .inr (.inr ⟨y, hy, hz⟩)
                        · rw [List.mem_singleton] at hy
                          subst hy
                          have := hz.1
                          simp only at this
                          exact .inl (by omega)
                  clear hbb
                  go_wp2_with (go_at_call 41; refine HB.out.mono ?_; rintro e w4 ⟨rfl, ho4⟩; have HS4 := Lib.hid (HS3.out.only ho4); clear b0 c0 c1 c2 d0 d1 ho4; obtain ⟨b0, _⟩ := ref_tab HS4.out.tail; obtain ⟨_, eg, ⟨c0, c1, c2⟩, _⟩ := ref_cells HS4.out.tail HY.out; cases eg; have d0 := (ref_held HS4.out.tail HY.out).1.cells _ _ HY1.out; have z0 := cell_of_block HS4.out.blk n1 (v := .bool (S n1)) (HI.out.cell n1 hn1); have z1 := free_of_block HS4.out.blk n1)
                  go_roundw
                  case rel => exact ⟨j + 1, _, _, by omega, by go_num, HI.out.set hn1, HFN.out, HS4.out.store n1 _⟩
                  case measure => simp [intOf]; omega
                | false =>
                  rw [hbb] at HB
                  have HFN : Hid (∀ k : Nat, k < 1001 → (S k = true ↔ IsFor (t.take i) h k ∨ ∃ y ∈ x.has.take (j + 1), y.1 = (k : Int) ∧ barsB y h m = true)) := by
                    intro k hk
                    rw [HFJ.out k hk, HJ.out]
                    constructor
                    · rintro (a | ⟨y, hy, hz⟩)
                      · exact .inl a
                      · exact .inr ⟨y, List.mem_append_left _ hy, hz⟩
                    · rintro (a | ⟨y, hy, hz⟩)
                      · exact .inl a
                      · rcases List.mem_append.1 hy with hy | hy
                        · exact .inr ⟨y, hy, hz⟩
                        · rw [List.mem_singleton] at hy
                          subst hy
                          have := hz.2
                          rw [hbb] at this
                          cases this
                  clear hbb
                  go_wp2_with (go_at_call 41; refine HB.out.mono ?_; rintro e w4 ⟨rfl, ho4⟩; have HS4 := Lib.hid (HS3.out.only ho4); clear ho4)
                  go_roundw
                  case rel => exact ⟨j + 1, _, _, by omega, by go_num, HI.out, HFN.out, HS4.out⟩
                  case measure => simp [intOf]; omega
              · have hjn : j = NH := by omega
                have HFN : Hid (∀ k : Nat, k < 1001 → (S k = true ↔ IsFor (t.take i) h k ∨ ∃ y ∈ x.has, y.1 = (k : Int) ∧ barsB y h m = true)) := by have h1 := HFJ.out; rw [hjn, HNH.out, List.take_length] at h1; exact h1
                clear hjn
                go_wp2_with fail
                go_meet
                exact ⟨arr, S, HI.out, HFN.out, HS3.out⟩
          case rest =>
          obtain ⟨arr, S, HI, HFJ, HS3⟩ := hcut
          have HI : Hid (InAt arr S) := HI
          have HFJ : Hid (∀ k : Nat, k < 1001 → (S k = true ↔ IsFor (t.take i) h k ∨ ∃ y ∈ x.has, y.1 = (k : Int) ∧ barsB y h m = true)) := HFJ
          have HS3 : Hid (Sep w wc (blkRes X (.cells arr 86 (0, 0)) :: openR b (some ⟨g, 0, none⟩) N q tv L)) := HS3
          obtain ⟨W3, hW3⟩ : ∃ V : World, V = wc := ⟨_, rfl⟩
          rw [← hW3] at HS3 ⊢
          clear hW3 b0 c0 c1 c2 HMO HS
          have HF1 : Hid (∀ k : Nat, k < 1001 → (S k = true ↔ (IsFor (t.take i) h k ∨ ∃ y ∈ x.has, y.1 = (k : Int) ∧ barsB y h m = true) ∨ ∃ y ∈ x.q.take 0, y.1 = (k : Int))) := fun k hk => by rw [HFJ.out k hk]; simp
          have hkq : k0 < NQ := by rw [HNQ.out]; exact hk0q
          clear hk0q
          have hk01 : k0 ≤ 1001 := by omega
          go_wp2_with fail
          go_loopw [9] (fun s9 wr => ∃ (j : Nat) (arr : Array Value) (S : Nat → Bool), j ≤ k0 ∧ s9 = .int .i64 j ∧ Aside (InAt arr S) ∧ Aside (∀ k : Nat, k < 1001 → (S k = true ↔ (IsFor (t.take i) h k ∨ ∃ y ∈ x.has, y.1 = (k : Int) ∧ barsB y h m = true) ∨ ∃ y ∈ x.q.take j, y.1 = (k : Int))) ∧ Aside (Sep w wr (blkRes X (.cells arr 86 (0, 0)) :: openR b (some ⟨g, 0, none⟩) N q tv L))) (fun s9 _ => k0 - (intOf s9).toNat)
          case atStart => exact ⟨0, arr, S, Nat.zero_le _, rfl, HI.out, HF1.out, HS3.out⟩
          case round =>
            obtain ⟨j, arr, S, hj, rfl, HI, HFJ, HS4⟩ := hrel
            have HI : Hid (InAt arr S) := HI
            have HFJ : Hid (∀ k : Nat, k < 1001 → (S k = true ↔ (IsFor (t.take i) h k ∨ ∃ y ∈ x.has, y.1 = (k : Int) ∧ barsB y h m = true) ∨ ∃ y ∈ x.q.take j, y.1 = (k : Int))) := HFJ
            have HS4 : Hid (Sep w wr (blkRes X (.cells arr 86 (0, 0)) :: openR b (some ⟨g, 0, none⟩) N q tv L)) := HS4
            obtain ⟨W4, hW4⟩ : ∃ V : World, V = wr := ⟨_, rfl⟩
            rw [← hW4] at HS4 ⊢
            clear hW4 HF1 HS3
            obtain ⟨b0, _⟩ := ref_tab HS4.out.tail
            obtain ⟨_, eg, ⟨c0, c1, c2⟩, _⟩ := ref_cells HS4.out.tail HY.out
            cases eg
            have hjq : j < NQ := by omega
            obtain ⟨y, hy⟩ : ∃ y, x.q[j]? = some y := ⟨x.q[j]'(by rw [← HNQ.out]; exact hjq), List.getElem?_eq_getElem _⟩
            obtain ⟨hy1, _⟩ := wCells_at hy
            have hym := HGX.out.q.2 y (List.mem_of_getElem? hy)
            obtain ⟨y1, y2⟩ := y
            obtain ⟨n1, hn1⟩ : ∃ n1 : Nat, y1 = (n1 : Int) := ⟨y1.toNat, by have := hym.1; simp only at this; omega⟩
            subst hn1
            simp only at hy1 hym
            have hn1 : n1 < 1001 := by omega
            rcases (ref_held HS4.out.tail HY.out).2 with ⟨a, _⟩ | ⟨gq, oq, cc, a, _, _, _, hcl⟩
            · simp only [Value.slice.injEq] at a
              omega
            simp only [Value.slice.injEq] at a
            obtain ⟨rfl, hx1, rfl⟩ := a
            clear hx1
            have d0 := hcl _ _ hy1
            have HJ : Hid (x.q.take (j + 1) = x.q.take j ++ [((n1 : Int), y2)]) := by show _ = _; rw [List.take_add_one, hy]; rfl
            by_cases hjk : j < k0
            · have hne : ((n1 : Int) == h) = false := by
                rw [beq_eq_false_iff_ne]
                intro e
                have := modes_idx HGX.out.q hy HK0.out e
                omega
              have hne2 : ((n1 : Int) != h) = true := by rw [bne, hne]; rfl
              have hne3 : ¬ (n1 : Int) = h := by rw [beq_eq_false_iff_ne] at hne; exact hne
              have HFN : Hid (∀ k : Nat, k < 1001 → ((decide (k = n1) || S k) = true ↔ (IsFor (t.take i) h k ∨ ∃ y ∈ x.has, y.1 = (k : Int) ∧ barsB y h m = true) ∨ ∃ y ∈ x.q.take (j + 1), y.1 = (k : Int))) := by
                intro k hk
                rw [Bool.or_eq_true, decide_eq_true_eq, HFJ.out k hk, HJ.out]
                constructor
                · rintro (rfl | a | ⟨y, hy, hz⟩)
                  · exact .inr ⟨_, List.mem_append_right _ (List.mem_singleton.2 rfl), rfl⟩
                  · exact .inl a
                  · exact .inr ⟨y, List.mem_append_left _ hy, hz⟩
                · rintro (a | ⟨y, hy, hz⟩)
                  · exact .inr (.inl a)
                  · rcases List.mem_append.1 hy with hy | hy
                    · exact .inr (.inr ⟨y, hy, hz⟩)
                    · rw [List.mem_singleton] at hy
                      subst hy
                      simp only at hz
                      exact .inl (by omega)
              clear hy hy1 hym hcl
              have z0 := cell_of_block HS4.out.blk n1 (v := .bool (S n1)) (HI.out.cell n1 hn1)
              have z1 := free_of_block HS4.out.blk n1
              go_wp2_with fail
              go_roundw
              case rel => exact ⟨j + 1, _, _, by omega, by go_num, HI.out.set hn1, HFN.out, HS4.out.store n1 _⟩
              case measure => simp [intOf]; omega
            · have hjk0 : j = k0 := by omega
              have heq : (n1 : Int) = h := by
                have h1 := HK0.out
                rw [← hjk0, hy] at h1
                simp only [Option.some.injEq, Prod.mk.injEq] at h1
                exact h1.1
              have HFN : Hid (∀ k : Nat, k < 1001 → (S k = true ↔ IsFor (t.take (i + 1)) h k)) := by
                intro k hk
                rw [HFJ.out k hk, isFor_next HX.out, isForT_iff HGX.out.q HK0.out, hjk0]
                constructor
                · rintro ((a | a) | a)
                  · exact .inl a
                  · exact .inr (.inr a)
                  · exact .inr (.inl a)
                · rintro (a | a | a)
                  · exact .inl (.inl a)
                  · exact .inr a
                  · exact .inl (.inr a)
              have hne : ((n1 : Int) == h) = true := by rw [beq_iff_eq]; exact heq
              have hne2 : ((n1 : Int) != h) = false := by rw [bne, hne]; rfl
              clear hy hy1 hym hcl hjk0
              go_wp2_with fail
              go_roundw
              case rel => exact ⟨i + 1, arr, S, by omega, by go_num, HI.out, HFN.out, HS4.out⟩
              case measure => simp [intOf]; omega
      · have hiN : i = N := by omega
        have HF2 : Hid (∀ k : Nat, k < 1001 → (S k = true ↔ IsFor t h k)) := by have h1 := HF.out; rw [hiN, HN.out, List.take_length] at h1; exact h1
        clear hiN
        go_wp2_with fail
        go_meet
        exact ⟨arr, S, HI.out, HF2.out, HS.out⟩
  case rest =>
  obtain ⟨arr, S, HI, HF, HS⟩ := hcut
  have HI : Hid (InAt arr S) := HI
  have HF : Hid (∀ k : Nat, k < 1001 → (S k = true ↔ IsFor t h k)) := HF
  have HS : Hid (Sep w wc (blkRes X (.cells arr 86 (0, 0)) :: openR b p N q tv L)) := HS
  clear HAL
  have HS1 : Hid (Sep w wc (rowRes 3 1 (.slice none 0 0) 0 [] :: blkRes X (.cells arr 86 (0, 0)) :: openR b p N q tv L)) := HS.out.row_nil _ _
  obtain ⟨W2, hW2⟩ : ∃ V : World, V = wc := ⟨_, rfl⟩
  rw [← hW2] at HS1 ⊢
  clear hW2 HS
  go_wp2_with fail
  go_loopw [11, 10] (fun s11 s10 wr => ∃ (i : Nat) (po : Option Addr) (no qo : Nat), 1 ≤ i ∧ i ≤ 1001 ∧ s11 = .int .i64 i ∧ s10 = .slice po no qo ∧ Aside (no = (outN S i).length) ∧ Aside (Sep w wr (rowRes 3 1 (.slice po no qo) no (intCells (outN S i)) :: blkRes X (.cells arr 86 (0, 0)) :: openR b p N q tv L))) (fun s11 _ _ => 1001 - (intOf s11).toNat)
  case atStart => exact ⟨1, none, 0, 0, by omega, by omega, rfl, rfl, rfl, HS1.out⟩
  case round =>
    obtain ⟨i, po, no, qo, h1i, hi, rfl, rfl, HNO, HS⟩ := hrel
    have HNO : Hid (no = (outN S i).length) := HNO
    have HS : Hid (Sep w wr (rowRes 3 1 (.slice po no qo) no (intCells (outN S i)) :: blkRes X (.cells arr 86 (0, 0)) :: openR b p N q tv L)) := HS
    obtain ⟨W3, hW3⟩ : ∃ V : World, V = wr := ⟨_, rfl⟩
    rw [← hW3] at HS ⊢
    clear hW3
    by_cases hlt : i ≤ 1000
    · have r0 := cell_of_block HS.out.up1.blk i (v := .bool (S i)) (HI.out.cell i (by omega))
      have HLN : Hid (no ≤ 1001) := by have h1 := outN_len S i; have h2 := HNO.out; show no ≤ 1001; omega
      cases hsi : S i with
      | true =>
        rw [hsi] at r0
        have HO : Hid (outN S (i + 1) = outN S i ++ [(i : Int)]) := by show _ = _; rw [outN_next S h1i, hsi]; rfl
        clear hsi
        go_wp2_with (at_builtin; refine wpList_append_sep (w := w) (cs := #[.int .i64 i]) (e := 3) rfl (.tmp 109) (.tmp 111) 37 rfl ii _ 1 8 Tryd.underlying37 II.out rfl (by decide) (.slice po no qo) no (intCells (outN S i)) rfl rfl rfl rfl (by simp [Value.oneCell']) HS.out (by have h9 := HLN.out; unfold maxLen; omega) (by have h9 := HLN.out; omega) ?_; intro p8 q8 w8 hs8; have HS4 := Lib.hid hs8; clear hs8)
        go_roundw
        case rel => exact ⟨i + 1, p8, _, q8, by omega, by omega, by go_num, rfl, (by rw [HO.out, List.length_append, HNO.out]; rfl : no + 1 = (outN S (i + 1)).length), (by rw [HO.out, show intCells (outN S i ++ [(i : Int)]) = intCells (outN S i) ++ (#[Value.int .i64 i] : Array Value).toList from by unfold intCells; rw [List.map_append]; rfl]; exact HS4.out : Sep w w8 _)⟩
        case measure => simp [intOf]; omega
      | false =>
        rw [hsi] at r0
        have HO : Hid (outN S (i + 1) = outN S i) := by show _ = _; rw [outN_next S h1i, hsi]; simp
        clear hsi
        go_wp2_with fail
        go_roundw
        case rel => exact ⟨i + 1, po, _, qo, by omega, by omega, by go_num, rfl, (by rw [HO.out]; exact HNO.out : no = (outN S (i + 1)).length), (by rw [HO.out]; exact HS.out : Sep w W3 _)⟩
        case measure => simp [intOf]; omega
    · have hi1 : i = 1001 := by omega
      subst hi1
      go_wp2_with fail
      go_ret
      refine ⟨outN S 1001, po, qo, by rw [HNO.out]; rfl, outN_rising _ _, fun o => ?_, ?_⟩
      · rw [outN_mem]
        constructor
        · rintro ⟨k, h1, h2, h3, rfl⟩
          exact (HF.out k h1).1 h3
        · intro ho
          obtain ⟨h1, h2⟩ := isFor_range HG.out ho
          obtain ⟨k, rfl⟩ : ∃ k : Nat, o = (k : Int) := ⟨o.toNat, by omega⟩
          exact ⟨k, by omega, by omega, (HF.out k (by omega)).2 ho, rfl⟩
      · have h1 := HS.out
        rw [HNO.out] at h1
        exact (ref_shut (h1.up1.tail.dn3) HN.out HT.out).up1

end Go.Proofs.YtipfjjcokajjjaaDoor
