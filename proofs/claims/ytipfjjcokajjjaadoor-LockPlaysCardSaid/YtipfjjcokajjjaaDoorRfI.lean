/-
  What is proved here: the document's Take of a thing that nobody has or waits for (printed by wip/tools/ref12.py).
  No condition: each lemma names its own.
-/
import Derived.Test.YtipfjjcokajjjaaDoorRfG
import Derived.Deep.DeepCutAuto
import Derived.Deep.RegionHeld3
set_option linter.unusedVariables false
set_option linter.unusedSimpArgs false
namespace Go.Proofs.YtipfjjcokajjjaaDoor
open Go.RowKit

theorem Tryd.infoThing : (Tryd.prog.info? 71).map (fun i => (i.zero, i.size, i.bytes)) = some (some (.agg #[.string ⟨#[]⟩, .slice none 0 0, .slice none 0 0]), 3, 64) := by kernel_rfl
theorem t_take {w W : World} {b g : Nat} {L : List Res} {n q : Nat} {ta tb : RTP} (hs : Sep w W (openR b (some ⟨g, 0, none⟩) n q (ta ++ tb) L)) : ∀ j u, (tCells ta)[j]? = some u → ∃ b' o', (some ⟨g, 0, none⟩ : Option Addr) = some ⟨b', o', none⟩ ∧ W.cell? ⟨b', o' + j, none⟩ = some u := by
  intro j u hu
  have h1 : (tCells (ta ++ tb))[j]? = some u := by
    rw [tCells_app, List.getElem?_append_left (List.getElem?_eq_some_iff.1 hu).1]; exact hu
  obtain ⟨g', e, h2, _⟩ := ownsRow_cell_of hs.up1.row h1
  cases e
  exact ⟨g, 0, rfl, by rw [Nat.zero_add]; exact h2⟩
theorem t_drop {w W : World} {b g : Nat} {L : List Res} {n q a : Nat} {ta tb : RTP} (hs : Sep w W (openR b (some ⟨g, 0, none⟩) n q (ta ++ tb) L)) (ha : a = ta.length) : ∀ j u, (tCells tb)[j]? = some u → ∃ b' o', (some ⟨g, a * 3, none⟩ : Option Addr) = some ⟨b', o', none⟩ ∧ W.cell? ⟨b', o' + j, none⟩ = some u := by
  intro j u hu
  have h1 : (tCells (ta ++ tb))[a * 3 + j]? = some u := by
    rw [tCells_app, List.getElem?_append_right (by rw [tCells_len, ha]; omega), tCells_len, ha, Nat.add_sub_cancel_left]; exact hu
  obtain ⟨g', e, h2, _⟩ := ownsRow_cell_of hs.up1.row h1
  cases e
  exact ⟨g, a * 3, rfl, h2⟩
theorem no_tcells {W : World} {p : Option Addr} : ∀ j u, (tCells [])[j]? = some u → ∃ b o, p = some (⟨b, o, none⟩ : Addr) ∧ W.cell? ⟨b, o + j, none⟩ = some u := by
  intro j u hu; simp [tCells] at hu
/-- The cells of a thing are each one cell. -/
def OneT (tv : RTP) : Prop := ∀ u ∈ tCells tv, u.oneCell' = true
theorem tCells_one {w W : World} {L : List Res} {tv : RTP} (hs : Sep w W (heldsRes (tHelds tv) :: L)) : OneT tv := by
  intro u hu
  obtain ⟨y, hy, hu⟩ := List.mem_flatMap.1 hu
  obtain ⟨k, hk⟩ := List.getElem?_of_mem hy
  obtain ⟨m1, m2⟩ := tHelds_at hk
  obtain ⟨p1, q1, e1⟩ := (hs.helds m1).slice
  obtain ⟨p2, q2, e2⟩ := (hs.helds m2).slice
  simp only [List.mem_cons, List.not_mem_nil, or_false] at hu
  rcases hu with rfl | rfl | rfl
  · rfl
  · rw [e1]; rfl
  · rw [e2]; rfl
theorem OneT.left {ta tb : RTP} (h : OneT (ta ++ tb)) : OneT ta := fun u hu => h u (by rw [tCells_app]; exact List.mem_append_left _ hu)
theorem OneT.right {ta tb : RTP} (h : OneT (ta ++ tb)) : OneT tb := fun u hu => h u (by rw [tCells_app]; exact List.mem_append_right _ hu)
theorem thing_one (n : ByteArray) : ∀ u ∈ (#[Value.string n, .slice none 0 0, .slice none 0 0] : Array Value).toList, u.oneCell' = true := by
  intro u hu
  have hu : u ∈ [Value.string n, .slice none 0 0, .slice none 0 0] := hu
  simp only [List.mem_cons, List.not_mem_nil, or_false] at hu
  rcases hu with rfl | rfl | rfl <;> rfl
theorem tCells_new (ta tb : RTP) (n : ByteArray) : tCells ta ++ (#[Value.string n, .slice none 0 0, .slice none 0 0] : Array Value).toList ++ tCells tb = tCells (ta ++ (⟨n, [], []⟩, .slice none 0 0, .slice none 0 0) :: tb) := by
  rw [tCells_app, tCells_cons, List.append_assoc]; rfl
theorem lessB_true {a b : ByteArray} (h : ltB a b) : Op.bytesLess a.toList b.toList = true := by rw [Go.Proofs.bytesLess_eq, Lib.toList_data, Lib.toList_data]; exact decide_eq_true h
theorem lessB_false {a b : ByteArray} (h : ¬ ltB a b) : Op.bytesLess a.toList b.toList = false := by rw [Go.Proofs.bytesLess_eq, Lib.toList_data, Lib.toList_data]; exact decide_eq_false h

set_option maxRecDepth 100000 in
set_option maxHeartbeats 40000000 in
theorem rtn_s {w W : World} {L : List Res} {b : Nat} {a g N q : Nat} {ta tb : RTP} {n : ByteArray} {h want : Int} {t' : Tab}
    (a1 : ¬ h < 1) (a2 : ¬ 1000 < h) (a3 : ¬ (64 : Int) < (n.size : Int)) (a4 : ¬ want < 1) (a5 : ¬ 2 < want)
    (HW : Hid (Calls Tryd.prog 19 #[.pointer (some ⟨b, 0, none⟩), .int .i64 h] W fun e W' => e = .returned (.tuple #[.string ⟨#[]⟩, .bool false]) ∧ W = W'))
    (HM : Hid (Calls Tryd.prog 21 #[.pointer (some ⟨b, 0, none⟩), .int .i64 h, .string n] W fun e W' => e = .returned (.int .i64 0) ∧ W = W'))
    (HF : Hid (Calls Tryd.prog 32 #[.pointer (some ⟨b, 0, none⟩), .string n] W fun e W' => e = .returned (.int .i64 (-1)) ∧ W = W'))
    (HS : Hid (Sep w W (openR b (some ⟨g, 0, none⟩) N q (ta ++ tb) L))) (hlN : N < 256) (haq : a < q) (hnq : N ≤ q) (han : a ≤ N) (HTA : Hid (a = ta.length)) (HTB : Hid (N - a = tb.length)) (HLO : Hid (∀ j, j < N → ∃ nm, W.cell? ⟨g, j * 3, none⟩ = some (.string nm) ∧ (j < a → ltB nm n) ∧ (j = a → ¬ ltB nm n)))
    (HEND : Hid (t' = ((ta : RTP).map Prod.fst) ++ ⟨n, [(h, want)], []⟩ :: ((tb : RTP).map Prod.fst))) (HLT : Hid (t'.length = N + 1)) :
    Calls Tryd.prog 14 #[.pointer (some ⟨b, 0, none⟩), .int .i64 h, .string n, .int .i64 want] W fun e W' => e = .returned (.int .i64 0) ∧ Sep w W' (refRes b t' :: L) := by
  obtain ⟨ie, IE⟩ := info_of Tryd.infoThing
  obtain ⟨ii, II⟩ := info_of Tryd.infoHeld
  have b0 := (ref_tab HS.out).1
  have hw0 : ¬ want ≤ 0 := by omega
  have hl6 : ¬ ((N : Int) = 256) := by omega
  have mixed : Tryd.prog.follows .mixedOrders = true := by kernel_rfl
  have HFIN : Hid (∀ (V : World) (p6 : Option Addr) (q6 m : Nat) (xs : List Value), m = N + 1 → xs = tCells (ta ++ (⟨n, [], []⟩, .slice none 0 0, .slice none 0 0) :: tb) → Sep w V (rowRes 71 3 (.slice p6 m q6) m xs :: openR b (some ⟨g, 0, none⟩) N q (ta ++ tb) L) → ∃ p q, Sep w (V.setCell ⟨b, 0, none⟩ (.slice p6 m q6)) (openR b p (N + 1) q (ta ++ (⟨n, [], []⟩, .slice none 0 0, .slice none 0 0) :: tb) L)) := by
    intro V p6 q6 m xs hm hx hv
    subst hm
    exact ⟨_, _, ref_new (v := .slice none 0 0) hv hx⟩
  have HONE := Lib.hid (tCells_one HS.out.up2)
  go_enter Tryd.func14, Tryd.ntmps14
  go_upto_block 0 with (first | (go_at_call 19; refine HW.out.mono ?_; rintro e w2 ⟨rfl, rfl⟩) | (go_at_call 21; refine HM.out.mono ?_; rintro e w2 ⟨rfl, rfl⟩) | (go_at_call 32; refine HF.out.mono ?_; rintro e w2 ⟨rfl, rfl⟩))
  go_cut [12] (fun s12 wx => s12 = .int .i64 (a : Nat) ∧ W = wx)
  case first =>
    go_wp2_with fail
    go_loopw [12] (fun s12 wr => ∃ i : Nat, i ≤ a ∧ s12 = .int .i64 i ∧ W = wr) (fun s12 _ => a - (intOf s12).toNat)
    case atStart => exact ⟨0, Nat.zero_le _, rfl, rfl⟩
    case round =>
      obtain ⟨i, hi, rfl, rfl⟩ := hrel
      by_cases hlt : i < N
      · obtain ⟨nm, r0, l1, l2⟩ := HLO.out i hlt
        by_cases hc : i < a
        · have hb1 := lessB_true (l1 hc)
          clear l1 l2
          go_wp2_with fail
          go_roundw
          case rel => exact ⟨i + 1, by omega, by go_num, trivial⟩
          case measure => simp [intOf]; omega
        · have hia : i = a := by omega
          have hb1 := lessB_false (l2 hia)
          have HIA := Lib.hid hia
          clear l1 l2 hia
          go_wp2_with fail
          go_meet
          exact ⟨by rw [HIA.out], rfl⟩
      · have hia : i = a := by omega
        have HIA := Lib.hid hia
        clear hia
        go_wp2_with fail
        go_meet
        exact ⟨by rw [HIA.out], rfl⟩
  case rest =>
  obtain ⟨rfl, rfl⟩ := hcut
  clear HW HM HF HLO
  have HM0 : Hid (Sep w (W.alloc (.cells #[] 71)).drew (rowRes 71 3 (.slice (some ⟨W.heap.size, 0, none⟩) 0 0) (0) ([]) :: openR b (some ⟨g, 0, none⟩) N q (ta ++ tb) L)) := (HS.out.row_made 71 3).drew
  have HM01 : Hid (Sep w ((W.alloc (.cells #[] 71)).alloc (.cells #[.string n, .slice none 0 0, .slice none 0 0] 71)).drew (rowRes 71 3 (.slice (some ⟨W.heap.size, 0, none⟩) 0 0) (0) ([]) :: blkRes (W.heap.size + 1) (.cells #[.string n, .slice none 0 0, .slice none 0 0] 71 (0, 0)) :: openR b (some ⟨g, 0, none⟩) N q (ta ++ tb) L)) := by
    have hz := ((HS.out.row_made 71 3).alloc #[.string n, .slice none 0 0, .slice none 0 0] 71).up1.drew
    rw [show (W.alloc (.cells #[] 71)).heap.size = W.heap.size + 1 from by simp] at hz
    exact hz
  have HM10 : Hid (Sep w ((W.alloc (.cells #[.string n, .slice none 0 0, .slice none 0 0] 71)).alloc (.cells #[] 71)).drew (rowRes 71 3 (.slice (some ⟨W.heap.size + 1, 0, none⟩) 0 0) (0) ([]) :: blkRes W.heap.size (.cells #[.string n, .slice none 0 0, .slice none 0 0] 71 (0, 0)) :: openR b (some ⟨g, 0, none⟩) N q (ta ++ tb) L)) := by
    have hz := ((HS.out.alloc #[.string n, .slice none 0 0, .slice none 0 0] 71).row_made 71 3).drew
    rw [show (W.alloc (.cells #[.string n, .slice none 0 0, .slice none 0 0] 71)).heap.size = W.heap.size + 1 from by simp] at hz
    exact hz
  have ka0 : (W.alloc (.cells #[] 71)).cell? ⟨b, 0, none⟩ = some (.slice (some ⟨g, 0, none⟩) N q) := Lib.cell?_alloc_some _ b0
  have ka1 : (W.alloc (.cells #[.string n, .slice none 0 0, .slice none 0 0] 71)).cell? ⟨b, 0, none⟩ = some (.slice (some ⟨g, 0, none⟩) N q) := Lib.cell?_alloc_some _ b0
  have ka01 : ((W.alloc (.cells #[] 71)).alloc (.cells #[.string n, .slice none 0 0, .slice none 0 0] 71)).cell? ⟨b, 0, none⟩ = some (.slice (some ⟨g, 0, none⟩) N q) := Lib.cell?_alloc_some _ ka0
  have ka10 : ((W.alloc (.cells #[.string n, .slice none 0 0, .slice none 0 0] 71)).alloc (.cells #[] 71)).cell? ⟨b, 0, none⟩ = some (.slice (some ⟨g, 0, none⟩) N q) := Lib.cell?_alloc_some _ ka1
  have SHM0 := Lib.hid (t_take HM0.out.tail)
  have SHM01 := Lib.hid (t_take HM01.out.tail.tail)
  have SHM10 := Lib.hid (t_take HM10.out.tail.tail)
  have HT1 := Lib.hid (OneT.left HONE.out)
  have HD1 := Lib.hid (OneT.right HONE.out)
  have hqi : ¬ (q = a) := by omega
  have hiq2 : a ≤ q := by omega
  go_upto_region 16 with fail
  go_cut [] (fun wx => ∃ p q, Sep w wx (openR b p (N + 1) q (ta ++ (⟨n, [], []⟩, .slice none 0 0, .slice none 0 0) :: tb) L))
  case first =>
    go_wp2_with fail
    refine wp_region_last (S := (fun w' => w'.cell? ⟨b, 0, none⟩ = some (.slice (some ⟨g, 0, none⟩) N q))) (by kernel_rfl) 22 _ rfl rfl rfl (by kernel_rfl) [21, 20, 19, 18, 17, 16, 15, 14, 13, 12, 11, 10, 9, 8, 7, 6, 5, 4, 3, 2, 1, 0] (by kernel_rfl) (by kernel_rfl) ?_ (fun hHeld => ?_)
    · (try dsimp only); (first | go_keep | assumption)
    simp only [lull, List.setIfInBounds_toArray, List.set_cons_succ, List.set_cons_zero]
    refine wpAnyH_take (i := 0) (v := ?_) rfl (by kernel_rfl) (by kernel_rfl) (by kernel_rfl) (fun _ _ _ h => h) (Or.inl ⟨by rfl, ?_⟩) (by assumption) ?_
    rotate_left
    · (intro w hSw; (try dsimp only at hSw); go_simp; try with_reducible rfl)
    (try simp only [Act.put, List.setIfInBounds_toArray, List.set_cons_zero, List.set_cons_succ])
    refine wpAnyH_take (i := 2) (v := ?_) rfl (by kernel_rfl) (by kernel_rfl) (by kernel_rfl) (fun _ _ _ h => h) (Or.inl ⟨by rfl, ?_⟩) (by assumption) ?_
    rotate_left
    · (intro w hSw; (try dsimp only at hSw); go_simp; try with_reducible rfl)
    (try simp only [Act.put, List.setIfInBounds_toArray, List.set_cons_zero, List.set_cons_succ])
    refine wpAnyH_take (i := 3) (v := ?_) rfl (by kernel_rfl) (by kernel_rfl) (by kernel_rfl) (fun _ _ _ h => h) (Or.inl ⟨by rfl, ?_⟩) (by assumption) ?_
    rotate_left
    · (intro w hSw; (try dsimp only at hSw); go_simp; try with_reducible rfl)
    (try simp only [Act.put, List.setIfInBounds_toArray, List.set_cons_zero, List.set_cons_succ])
    refine wpAnyH_take (i := 4) (v := ?_) rfl (by kernel_rfl) (by kernel_rfl) (by kernel_rfl) (fun _ _ _ h => h) (Or.inl ⟨by rfl, ?_⟩) (by assumption) ?_
    rotate_left
    · (intro w hSw; (try dsimp only at hSw); go_simp; try with_reducible rfl)
    (try simp only [Act.put, List.setIfInBounds_toArray, List.set_cons_zero, List.set_cons_succ])
    refine wpAnyH_take (i := 5) (v := ?_) rfl (by kernel_rfl) (by kernel_rfl) (by kernel_rfl) (fun _ _ _ h => h) (Or.inl ⟨by rfl, ?_⟩) (by assumption) ?_
    rotate_left
    · (intro w hSw; (try dsimp only at hSw); go_simp; try with_reducible rfl)
    (try simp only [Act.put, List.setIfInBounds_toArray, List.set_cons_zero, List.set_cons_succ])
    refine wpAnyH_take (i := 6) (v := ?_) rfl (by kernel_rfl) (by kernel_rfl) (by kernel_rfl) (fun _ _ _ h => h) (Or.inl ⟨by rfl, ?_⟩) (by assumption) ?_
    rotate_left
    · (intro w hSw; (try dsimp only at hSw); go_simp; try with_reducible rfl)
    (try simp only [Act.put, List.setIfInBounds_toArray, List.set_cons_zero, List.set_cons_succ])
    refine wpAnyH_take (i := 7) (v := ?_) rfl (by kernel_rfl) (by kernel_rfl) (by kernel_rfl) (fun _ _ _ h => h) (Or.inl ⟨by rfl, ?_⟩) (by assumption) ?_
    rotate_left
    · (intro w hSw; (try dsimp only at hSw); go_simp; try with_reducible rfl)
    (try simp only [Act.put, List.setIfInBounds_toArray, List.set_cons_zero, List.set_cons_succ])
    refine wpAnyH_take (i := 9) (v := ?_) rfl (by kernel_rfl) (by kernel_rfl) (by kernel_rfl) (fun _ _ _ h => h) (Or.inl ⟨by rfl, ?_⟩) (by assumption) ?_
    rotate_left
    · (intro w hSw; (try dsimp only at hSw); go_simp; try with_reducible rfl)
    (try simp only [Act.put, List.setIfInBounds_toArray, List.set_cons_zero, List.set_cons_succ])
    refine wpAnyH_take (i := 10) (v := ?_) rfl (by kernel_rfl) (by kernel_rfl) (by kernel_rfl) (fun _ _ _ h => h) (Or.inl ⟨by rfl, ?_⟩) (by assumption) ?_
    rotate_left
    · (intro w hSw; (try dsimp only at hSw); go_simp; try with_reducible rfl)
    (try simp only [Act.put, List.setIfInBounds_toArray, List.set_cons_zero, List.set_cons_succ])
    refine wpAnyH_take (i := 13) (v := ?_) rfl (by kernel_rfl) (by kernel_rfl) (by kernel_rfl) (fun _ _ _ h => h) (Or.inl ⟨by rfl, ?_⟩) (by assumption) ?_
    rotate_left
    · (intro w hSw; (try dsimp only at hSw); go_simp; try with_reducible rfl)
    (try simp only [Act.put, List.setIfInBounds_toArray, List.set_cons_zero, List.set_cons_succ])
    refine wpAnyH_take (i := 14) (v := ?_) rfl (by kernel_rfl) (by kernel_rfl) (by kernel_rfl) (fun _ _ _ h => h) (Or.inl ⟨by rfl, ?_⟩) (by assumption) ?_
    rotate_left
    · (intro w hSw; (try dsimp only at hSw); go_simp; try with_reducible rfl)
    (try simp only [Act.put, List.setIfInBounds_toArray, List.set_cons_zero, List.set_cons_succ])
    refine wpAnyH_take (i := 15) (v := ?_) rfl (by kernel_rfl) (by kernel_rfl) (by kernel_rfl) (fun _ _ _ h => h) (Or.inl ⟨by rfl, ?_⟩) (by assumption) ?_
    rotate_left
    · (intro w hSw; (try dsimp only at hSw); go_simp; try with_reducible rfl)
    (try simp only [Act.put, List.setIfInBounds_toArray, List.set_cons_zero, List.set_cons_succ])
    refine wpAnyH_take (i := 16) (v := ?_) rfl (by kernel_rfl) (by kernel_rfl) (by kernel_rfl) (fun _ _ _ h => h) (Or.inl ⟨by rfl, ?_⟩) (by assumption) ?_
    rotate_left
    · (intro w hSw; (try dsimp only at hSw); go_simp; try with_reducible rfl)
    (try simp only [Act.put, List.setIfInBounds_toArray, List.set_cons_zero, List.set_cons_succ])
    refine wpAnyH_take (i := 17) (v := ?_) rfl (by kernel_rfl) (by kernel_rfl) (by kernel_rfl) (fun _ _ _ h => h) (Or.inl ⟨by rfl, ?_⟩) (by assumption) ?_
    rotate_left
    · (intro w hSw; (try dsimp only at hSw); go_simp; try with_reducible rfl)
    (try simp only [Act.put, List.setIfInBounds_toArray, List.set_cons_zero, List.set_cons_succ])
    refine wpAnyH_take (i := 18) (v := ?_) rfl (by kernel_rfl) (by kernel_rfl) (by kernel_rfl) (fun _ _ _ h => h) (Or.inl ⟨by rfl, ?_⟩) (by assumption) ?_
    rotate_left
    · (intro w hSw; (try dsimp only at hSw); go_simp; try with_reducible rfl)
    (try simp only [Act.put, List.setIfInBounds_toArray, List.set_cons_zero, List.set_cons_succ])
    refine wpAnyH_ready (rs := [1, 11]) (by kernel_rfl) (by simp) ?_
    refine AllReadyH.cons rfl (fun K hK => ?_) ?_
    · go_simp
      refine hK.out _ _ ?_ (fun hH1 => ?_)
      · (try dsimp only); (first | go_keep | assumption)
      clear hK K hHeld
      (try simp only [Act.put, List.setIfInBounds_toArray, List.set_cons_zero, List.set_cons_succ])
      refine wpAnyH_ready (rs := [8, 11]) (by kernel_rfl) (by simp) ?_
      refine AllReadyH.cons rfl (fun K hK => ?_) ?_
      · first | (refine step_append_srcR (w := w) (e := 71) rfl (.tmp 81) (.tmp 87) 26 rfl ie _ 3 64 Tryd.underlying26 IE.out rfl (by decide) (.slice (some ⟨W.heap.size, 0, none⟩) 0 0) 0 [] rfl (some ⟨g, 0, none⟩) a q (tCells ta) rfl (by rw [tCells_len, HTA.out]) SHM0.out HT1.out HM0.out (by unfold maxLen; omega) (by omega) ?_; intro p4 q4 w4 hs4; rw [Nat.zero_add, List.nil_append] at hs4; rw [Nat.zero_add]; have HS4 := Lib.hid hs4; clear hs4; have kn4 := (ref_tab HS4.out.tail).1; have kn5 : (w4.alloc (.cells #[.string n, .slice none 0 0, .slice none 0 0] 71)).cell? ⟨b, 0, none⟩ = some (.slice (some ⟨g, 0, none⟩) N q) := Lib.cell?_alloc_some _ kn4) | (refine step_append_srcR (w := w) (e := 71) rfl (.tmp 81) (.tmp 87) 26 rfl ie _ 3 64 Tryd.underlying26 IE.out rfl (by decide) (.slice (some ⟨W.heap.size, 0, none⟩) 0 0) 0 [] rfl (some ⟨g, 0, none⟩) a q (tCells ta) rfl (by rw [tCells_len, HTA.out]) SHM01.out HT1.out HM01.out (by unfold maxLen; omega) (by omega) ?_; intro p4 q4 w4 hs4; rw [Nat.zero_add, List.nil_append] at hs4; rw [Nat.zero_add]; have HS4 := Lib.hid hs4; clear hs4; have kn4 := (ref_tab HS4.out.tail.tail).1) | (refine step_append_srcR (w := w) (e := 71) rfl (.tmp 81) (.tmp 87) 26 rfl ie _ 3 64 Tryd.underlying26 IE.out rfl (by decide) (.slice (some ⟨W.heap.size + 1, 0, none⟩) 0 0) 0 [] rfl (some ⟨g, 0, none⟩) a q (tCells ta) rfl (by rw [tCells_len, HTA.out]) SHM10.out HT1.out HM10.out (by unfold maxLen; omega) (by omega) ?_; intro p4 q4 w4 hs4; rw [Nat.zero_add, List.nil_append] at hs4; rw [Nat.zero_add]; have HS4 := Lib.hid hs4; clear hs4; have kn4 := (ref_tab HS4.out.tail.tail).1)
        refine hK.out _ _ ?_ (fun hH2 => ?_)
        · (try dsimp only); (first | go_keep | assumption)
        clear hK K hH1
        (try simp only [Act.put, List.setIfInBounds_toArray, List.set_cons_zero, List.set_cons_succ])
        refine wpAnyH_ready (rs := [11]) (by kernel_rfl) (by simp) ?_
        refine AllReadyH.cons rfl (fun K hK => ?_) ?_
        · go_simp
          refine hK.out _ _ ?_ (fun hH3 => ?_)
          · (try dsimp only); (first | go_keep | assumption)
          clear hK K hH2
          (try simp only [Act.put, List.setIfInBounds_toArray, List.set_cons_zero, List.set_cons_succ])
          refine wpAnyH_ready (rs := [12]) (by kernel_rfl) (by simp) ?_
          refine AllReadyH.cons rfl (fun K hK => ?_) ?_
          · first | (refine step_append_sep (w := w) (e := 71) (B := (W.heap.size + 1)) rfl (.tmp 88) (.tmp 91) 26 rfl ie _ 3 64 Tryd.underlying26 IE.out rfl (by decide) (.slice p4 a q4) a (tCells ta) rfl rfl (HS4.out.up1.blk) rfl (thing_one n) HS4.out (by unfold maxLen; omega) (by omega) ?_; intro p5 q5 w5 hs5; have HS5 := Lib.hid hs5; clear hs5; have kn6 := (ref_tab HS5.out.tail.tail).1) | (refine step_append_sep (w := w) (e := 71) (B := W.heap.size) rfl (.tmp 88) (.tmp 91) 26 rfl ie _ 3 64 Tryd.underlying26 IE.out rfl (by decide) (.slice p4 a q4) a (tCells ta) rfl rfl (HS4.out.up1.blk) rfl (thing_one n) HS4.out (by unfold maxLen; omega) (by omega) ?_; intro p5 q5 w5 hs5; have HS5 := Lib.hid hs5; clear hs5; have kn6 := (ref_tab HS5.out.tail.tail).1) | (refine step_append_sep (w := w) (e := 71) (B := w4.heap.size) rfl (.tmp 88) (.tmp 91) 26 rfl ie _ 3 64 Tryd.underlying26 IE.out rfl (by decide) (.slice p4 a q4) a (tCells ta) rfl rfl (heap_alloc_self) rfl (thing_one n) (HS4.out.forget (.cells #[.string n, .slice none 0 0, .slice none 0 0] 71)) (by unfold maxLen; omega) (by omega) ?_; intro p5 q5 w5 hs5; have HS5 := Lib.hid hs5; clear hs5; have kn6 := (ref_tab HS5.out.tail).1)
            refine hK.out _ _ ?_ (fun hH4 => ?_)
            · (try dsimp only); (first | go_keep | assumption)
            clear hK K hH3
            (try simp only [Act.put, List.setIfInBounds_toArray, List.set_cons_zero, List.set_cons_succ])
            refine wpAnyH_ready (rs := [19]) (by kernel_rfl) (by simp) ?_
            refine AllReadyH.cons rfl (fun K hK => ?_) ?_
            · (refine step_append_srcR (w := w) (e := 71) rfl (.tmp 92) (.tmp 98) 26 rfl ie _ 3 64 Tryd.underlying26 IE.out rfl (by decide) (.slice p5 (a + 1) q5) (a + 1) (tCells ta ++ (#[.string n, .slice none 0 0, .slice none 0 0] : Array Value).toList) rfl (some ⟨g, a * 3, none⟩) (N - a) (q - a) (tCells tb) rfl (by rw [tCells_len, HTB.out]) (by first | exact t_drop HS5.out.tail HTA.out | exact t_drop HS5.out.tail.tail HTA.out) HD1.out HS5.out (by unfold maxLen; omega) (by omega) ?_; intro p6 q6 w6 hs6; have HS6 := Lib.hid hs6; clear hs6; have kn7 : w6.cell? ⟨b, 0, none⟩ = some (.slice (some ⟨g, 0, none⟩) N q) := (by first | exact (ref_tab HS6.out.tail).1 | exact (ref_tab HS6.out.tail.tail).1); have fn7 : w6.frozen? ⟨b, 0, none⟩ = false := (by first | exact (ref_tab HS6.out.tail).2 | exact (ref_tab HS6.out.tail.tail).2))
              refine hK.out _ _ ?_ (fun hH5 => ?_)
              · (try dsimp only); (first | go_keep | assumption)
              clear hK K hH4
              (try simp only [Act.put, List.setIfInBounds_toArray, List.set_cons_zero, List.set_cons_succ])
              refine wpAnyH_take (i := 20) (v := ?_) rfl (by kernel_rfl) (by kernel_rfl) (by kernel_rfl) (fun _ _ _ h => h) (Or.inl ⟨by rfl, ?_⟩) (by assumption) ?_
              rotate_left
              · (intro w hSw; (try dsimp only at hSw); go_simp; try with_reducible rfl)
              (try simp only [Act.put, List.setIfInBounds_toArray, List.set_cons_zero, List.set_cons_succ])
              refine wpAnyH_take (i := 21) (v := ?_) rfl (by kernel_rfl) (by kernel_rfl) (by kernel_rfl) (fun _ _ _ h => h) (Or.inl ⟨by rfl, ?_⟩) (by assumption) ?_
              rotate_left
              · (intro w hSw; (try dsimp only at hSw); go_simp; try with_reducible rfl)
              (try simp only [Act.put, List.setIfInBounds_toArray, List.set_cons_zero, List.set_cons_succ])
              refine wpAnyH_take (i := 22) (v := ?_) rfl (by kernel_rfl) (by kernel_rfl) (by kernel_rfl) (fun _ _ _ h => h) (Or.inl ⟨by rfl, ?_⟩) (by assumption) ?_
              rotate_left
              · (intro w hSw; (try dsimp only at hSw); go_simp; try with_reducible rfl)
              (try simp only [Act.put, List.setIfInBounds_toArray, List.set_cons_zero, List.set_cons_succ])
              refine wpAnyH_done (by kernel_rfl) ?_ _
              refine tail_run rfl rfl ?_
              clear hH5
              go_simp
              go_wp2_with fail
              go_meet
              first | refine HFIN.out _ _ _ _ _ ?_ ?_ HS6.out | refine HFIN.out _ _ _ _ _ ?_ ?_ HS6.out.up1.tail
              · omega
              · exact tCells_new _ _ _
            exact AllReadyH.nil
          exact AllReadyH.nil
        exact AllReadyH.nil
      refine AllReadyH.cons rfl (fun K hK => ?_) ?_
      · go_simp
        refine hK.out _ _ ?_ (fun hH6 => ?_)
        · (try dsimp only); (first | go_keep | assumption)
        clear hK K hH1
        (try simp only [Act.put, List.setIfInBounds_toArray, List.set_cons_zero, List.set_cons_succ])
        refine wpAnyH_ready (rs := [8]) (by kernel_rfl) (by simp) ?_
        refine AllReadyH.cons rfl (fun K hK => ?_) ?_
        · first | (refine step_append_srcR (w := w) (e := 71) rfl (.tmp 81) (.tmp 87) 26 rfl ie _ 3 64 Tryd.underlying26 IE.out rfl (by decide) (.slice (some ⟨W.heap.size, 0, none⟩) 0 0) 0 [] rfl (some ⟨g, 0, none⟩) a q (tCells ta) rfl (by rw [tCells_len, HTA.out]) SHM0.out HT1.out HM0.out (by unfold maxLen; omega) (by omega) ?_; intro p4 q4 w4 hs4; rw [Nat.zero_add, List.nil_append] at hs4; rw [Nat.zero_add]; have HS4 := Lib.hid hs4; clear hs4; have kn4 := (ref_tab HS4.out.tail).1; have kn5 : (w4.alloc (.cells #[.string n, .slice none 0 0, .slice none 0 0] 71)).cell? ⟨b, 0, none⟩ = some (.slice (some ⟨g, 0, none⟩) N q) := Lib.cell?_alloc_some _ kn4) | (refine step_append_srcR (w := w) (e := 71) rfl (.tmp 81) (.tmp 87) 26 rfl ie _ 3 64 Tryd.underlying26 IE.out rfl (by decide) (.slice (some ⟨W.heap.size, 0, none⟩) 0 0) 0 [] rfl (some ⟨g, 0, none⟩) a q (tCells ta) rfl (by rw [tCells_len, HTA.out]) SHM01.out HT1.out HM01.out (by unfold maxLen; omega) (by omega) ?_; intro p4 q4 w4 hs4; rw [Nat.zero_add, List.nil_append] at hs4; rw [Nat.zero_add]; have HS4 := Lib.hid hs4; clear hs4; have kn4 := (ref_tab HS4.out.tail.tail).1) | (refine step_append_srcR (w := w) (e := 71) rfl (.tmp 81) (.tmp 87) 26 rfl ie _ 3 64 Tryd.underlying26 IE.out rfl (by decide) (.slice (some ⟨W.heap.size + 1, 0, none⟩) 0 0) 0 [] rfl (some ⟨g, 0, none⟩) a q (tCells ta) rfl (by rw [tCells_len, HTA.out]) SHM10.out HT1.out HM10.out (by unfold maxLen; omega) (by omega) ?_; intro p4 q4 w4 hs4; rw [Nat.zero_add, List.nil_append] at hs4; rw [Nat.zero_add]; have HS4 := Lib.hid hs4; clear hs4; have kn4 := (ref_tab HS4.out.tail.tail).1)
          refine hK.out _ _ ?_ (fun hH7 => ?_)
          · (try dsimp only); (first | go_keep | assumption)
          clear hK K hH6
          (try simp only [Act.put, List.setIfInBounds_toArray, List.set_cons_zero, List.set_cons_succ])
          refine wpAnyH_ready (rs := [12]) (by kernel_rfl) (by simp) ?_
          refine AllReadyH.cons rfl (fun K hK => ?_) ?_
          · first | (refine step_append_sep (w := w) (e := 71) (B := (W.heap.size + 1)) rfl (.tmp 88) (.tmp 91) 26 rfl ie _ 3 64 Tryd.underlying26 IE.out rfl (by decide) (.slice p4 a q4) a (tCells ta) rfl rfl (HS4.out.up1.blk) rfl (thing_one n) HS4.out (by unfold maxLen; omega) (by omega) ?_; intro p5 q5 w5 hs5; have HS5 := Lib.hid hs5; clear hs5; have kn6 := (ref_tab HS5.out.tail.tail).1) | (refine step_append_sep (w := w) (e := 71) (B := W.heap.size) rfl (.tmp 88) (.tmp 91) 26 rfl ie _ 3 64 Tryd.underlying26 IE.out rfl (by decide) (.slice p4 a q4) a (tCells ta) rfl rfl (HS4.out.up1.blk) rfl (thing_one n) HS4.out (by unfold maxLen; omega) (by omega) ?_; intro p5 q5 w5 hs5; have HS5 := Lib.hid hs5; clear hs5; have kn6 := (ref_tab HS5.out.tail.tail).1) | (refine step_append_sep (w := w) (e := 71) (B := w4.heap.size) rfl (.tmp 88) (.tmp 91) 26 rfl ie _ 3 64 Tryd.underlying26 IE.out rfl (by decide) (.slice p4 a q4) a (tCells ta) rfl rfl (heap_alloc_self) rfl (thing_one n) (HS4.out.forget (.cells #[.string n, .slice none 0 0, .slice none 0 0] 71)) (by unfold maxLen; omega) (by omega) ?_; intro p5 q5 w5 hs5; have HS5 := Lib.hid hs5; clear hs5; have kn6 := (ref_tab HS5.out.tail).1)
            refine hK.out _ _ ?_ (fun hH8 => ?_)
            · (try dsimp only); (first | go_keep | assumption)
            clear hK K hH7
            (try simp only [Act.put, List.setIfInBounds_toArray, List.set_cons_zero, List.set_cons_succ])
            refine wpAnyH_ready (rs := [19]) (by kernel_rfl) (by simp) ?_
            refine AllReadyH.cons rfl (fun K hK => ?_) ?_
            · (refine step_append_srcR (w := w) (e := 71) rfl (.tmp 92) (.tmp 98) 26 rfl ie _ 3 64 Tryd.underlying26 IE.out rfl (by decide) (.slice p5 (a + 1) q5) (a + 1) (tCells ta ++ (#[.string n, .slice none 0 0, .slice none 0 0] : Array Value).toList) rfl (some ⟨g, a * 3, none⟩) (N - a) (q - a) (tCells tb) rfl (by rw [tCells_len, HTB.out]) (by first | exact t_drop HS5.out.tail HTA.out | exact t_drop HS5.out.tail.tail HTA.out) HD1.out HS5.out (by unfold maxLen; omega) (by omega) ?_; intro p6 q6 w6 hs6; have HS6 := Lib.hid hs6; clear hs6; have kn7 : w6.cell? ⟨b, 0, none⟩ = some (.slice (some ⟨g, 0, none⟩) N q) := (by first | exact (ref_tab HS6.out.tail).1 | exact (ref_tab HS6.out.tail.tail).1); have fn7 : w6.frozen? ⟨b, 0, none⟩ = false := (by first | exact (ref_tab HS6.out.tail).2 | exact (ref_tab HS6.out.tail.tail).2))
              refine hK.out _ _ ?_ (fun hH9 => ?_)
              · (try dsimp only); (first | go_keep | assumption)
              clear hK K hH8
              (try simp only [Act.put, List.setIfInBounds_toArray, List.set_cons_zero, List.set_cons_succ])
              refine wpAnyH_take (i := 20) (v := ?_) rfl (by kernel_rfl) (by kernel_rfl) (by kernel_rfl) (fun _ _ _ h => h) (Or.inl ⟨by rfl, ?_⟩) (by assumption) ?_
              rotate_left
              · (intro w hSw; (try dsimp only at hSw); go_simp; try with_reducible rfl)
              (try simp only [Act.put, List.setIfInBounds_toArray, List.set_cons_zero, List.set_cons_succ])
              refine wpAnyH_take (i := 21) (v := ?_) rfl (by kernel_rfl) (by kernel_rfl) (by kernel_rfl) (fun _ _ _ h => h) (Or.inl ⟨by rfl, ?_⟩) (by assumption) ?_
              rotate_left
              · (intro w hSw; (try dsimp only at hSw); go_simp; try with_reducible rfl)
              (try simp only [Act.put, List.setIfInBounds_toArray, List.set_cons_zero, List.set_cons_succ])
              refine wpAnyH_take (i := 22) (v := ?_) rfl (by kernel_rfl) (by kernel_rfl) (by kernel_rfl) (fun _ _ _ h => h) (Or.inl ⟨by rfl, ?_⟩) (by assumption) ?_
              rotate_left
              · (intro w hSw; (try dsimp only at hSw); go_simp; try with_reducible rfl)
              (try simp only [Act.put, List.setIfInBounds_toArray, List.set_cons_zero, List.set_cons_succ])
              refine wpAnyH_done (by kernel_rfl) ?_ _
              refine tail_run rfl rfl ?_
              clear hH9
              go_simp
              go_wp2_with fail
              go_meet
              first | refine HFIN.out _ _ _ _ _ ?_ ?_ HS6.out | refine HFIN.out _ _ _ _ _ ?_ ?_ HS6.out.up1.tail
              · omega
              · exact tCells_new _ _ _
            exact AllReadyH.nil
          exact AllReadyH.nil
        exact AllReadyH.nil
      exact AllReadyH.nil
    refine AllReadyH.cons rfl (fun K hK => ?_) ?_
    · go_simp
      refine hK.out _ _ ?_ (fun hH10 => ?_)
      · (try dsimp only); (first | go_keep | assumption)
      clear hK K hHeld
      (try simp only [Act.put, List.setIfInBounds_toArray, List.set_cons_zero, List.set_cons_succ])
      refine wpAnyH_ready (rs := [1]) (by kernel_rfl) (by simp) ?_
      refine AllReadyH.cons rfl (fun K hK => ?_) ?_
      · go_simp
        refine hK.out _ _ ?_ (fun hH11 => ?_)
        · (try dsimp only); (first | go_keep | assumption)
        clear hK K hH10
        (try simp only [Act.put, List.setIfInBounds_toArray, List.set_cons_zero, List.set_cons_succ])
        refine wpAnyH_ready (rs := [8]) (by kernel_rfl) (by simp) ?_
        refine AllReadyH.cons rfl (fun K hK => ?_) ?_
        · first | (refine step_append_srcR (w := w) (e := 71) rfl (.tmp 81) (.tmp 87) 26 rfl ie _ 3 64 Tryd.underlying26 IE.out rfl (by decide) (.slice (some ⟨W.heap.size, 0, none⟩) 0 0) 0 [] rfl (some ⟨g, 0, none⟩) a q (tCells ta) rfl (by rw [tCells_len, HTA.out]) SHM0.out HT1.out HM0.out (by unfold maxLen; omega) (by omega) ?_; intro p4 q4 w4 hs4; rw [Nat.zero_add, List.nil_append] at hs4; rw [Nat.zero_add]; have HS4 := Lib.hid hs4; clear hs4; have kn4 := (ref_tab HS4.out.tail).1; have kn5 : (w4.alloc (.cells #[.string n, .slice none 0 0, .slice none 0 0] 71)).cell? ⟨b, 0, none⟩ = some (.slice (some ⟨g, 0, none⟩) N q) := Lib.cell?_alloc_some _ kn4) | (refine step_append_srcR (w := w) (e := 71) rfl (.tmp 81) (.tmp 87) 26 rfl ie _ 3 64 Tryd.underlying26 IE.out rfl (by decide) (.slice (some ⟨W.heap.size, 0, none⟩) 0 0) 0 [] rfl (some ⟨g, 0, none⟩) a q (tCells ta) rfl (by rw [tCells_len, HTA.out]) SHM01.out HT1.out HM01.out (by unfold maxLen; omega) (by omega) ?_; intro p4 q4 w4 hs4; rw [Nat.zero_add, List.nil_append] at hs4; rw [Nat.zero_add]; have HS4 := Lib.hid hs4; clear hs4; have kn4 := (ref_tab HS4.out.tail.tail).1) | (refine step_append_srcR (w := w) (e := 71) rfl (.tmp 81) (.tmp 87) 26 rfl ie _ 3 64 Tryd.underlying26 IE.out rfl (by decide) (.slice (some ⟨W.heap.size + 1, 0, none⟩) 0 0) 0 [] rfl (some ⟨g, 0, none⟩) a q (tCells ta) rfl (by rw [tCells_len, HTA.out]) SHM10.out HT1.out HM10.out (by unfold maxLen; omega) (by omega) ?_; intro p4 q4 w4 hs4; rw [Nat.zero_add, List.nil_append] at hs4; rw [Nat.zero_add]; have HS4 := Lib.hid hs4; clear hs4; have kn4 := (ref_tab HS4.out.tail.tail).1)
          refine hK.out _ _ ?_ (fun hH12 => ?_)
          · (try dsimp only); (first | go_keep | assumption)
          clear hK K hH11
          (try simp only [Act.put, List.setIfInBounds_toArray, List.set_cons_zero, List.set_cons_succ])
          refine wpAnyH_ready (rs := [12]) (by kernel_rfl) (by simp) ?_
          refine AllReadyH.cons rfl (fun K hK => ?_) ?_
          · first | (refine step_append_sep (w := w) (e := 71) (B := (W.heap.size + 1)) rfl (.tmp 88) (.tmp 91) 26 rfl ie _ 3 64 Tryd.underlying26 IE.out rfl (by decide) (.slice p4 a q4) a (tCells ta) rfl rfl (HS4.out.up1.blk) rfl (thing_one n) HS4.out (by unfold maxLen; omega) (by omega) ?_; intro p5 q5 w5 hs5; have HS5 := Lib.hid hs5; clear hs5; have kn6 := (ref_tab HS5.out.tail.tail).1) | (refine step_append_sep (w := w) (e := 71) (B := W.heap.size) rfl (.tmp 88) (.tmp 91) 26 rfl ie _ 3 64 Tryd.underlying26 IE.out rfl (by decide) (.slice p4 a q4) a (tCells ta) rfl rfl (HS4.out.up1.blk) rfl (thing_one n) HS4.out (by unfold maxLen; omega) (by omega) ?_; intro p5 q5 w5 hs5; have HS5 := Lib.hid hs5; clear hs5; have kn6 := (ref_tab HS5.out.tail.tail).1) | (refine step_append_sep (w := w) (e := 71) (B := w4.heap.size) rfl (.tmp 88) (.tmp 91) 26 rfl ie _ 3 64 Tryd.underlying26 IE.out rfl (by decide) (.slice p4 a q4) a (tCells ta) rfl rfl (heap_alloc_self) rfl (thing_one n) (HS4.out.forget (.cells #[.string n, .slice none 0 0, .slice none 0 0] 71)) (by unfold maxLen; omega) (by omega) ?_; intro p5 q5 w5 hs5; have HS5 := Lib.hid hs5; clear hs5; have kn6 := (ref_tab HS5.out.tail).1)
            refine hK.out _ _ ?_ (fun hH13 => ?_)
            · (try dsimp only); (first | go_keep | assumption)
            clear hK K hH12
            (try simp only [Act.put, List.setIfInBounds_toArray, List.set_cons_zero, List.set_cons_succ])
            refine wpAnyH_ready (rs := [19]) (by kernel_rfl) (by simp) ?_
            refine AllReadyH.cons rfl (fun K hK => ?_) ?_
            · (refine step_append_srcR (w := w) (e := 71) rfl (.tmp 92) (.tmp 98) 26 rfl ie _ 3 64 Tryd.underlying26 IE.out rfl (by decide) (.slice p5 (a + 1) q5) (a + 1) (tCells ta ++ (#[.string n, .slice none 0 0, .slice none 0 0] : Array Value).toList) rfl (some ⟨g, a * 3, none⟩) (N - a) (q - a) (tCells tb) rfl (by rw [tCells_len, HTB.out]) (by first | exact t_drop HS5.out.tail HTA.out | exact t_drop HS5.out.tail.tail HTA.out) HD1.out HS5.out (by unfold maxLen; omega) (by omega) ?_; intro p6 q6 w6 hs6; have HS6 := Lib.hid hs6; clear hs6; have kn7 : w6.cell? ⟨b, 0, none⟩ = some (.slice (some ⟨g, 0, none⟩) N q) := (by first | exact (ref_tab HS6.out.tail).1 | exact (ref_tab HS6.out.tail.tail).1); have fn7 : w6.frozen? ⟨b, 0, none⟩ = false := (by first | exact (ref_tab HS6.out.tail).2 | exact (ref_tab HS6.out.tail.tail).2))
              refine hK.out _ _ ?_ (fun hH14 => ?_)
              · (try dsimp only); (first | go_keep | assumption)
              clear hK K hH13
              (try simp only [Act.put, List.setIfInBounds_toArray, List.set_cons_zero, List.set_cons_succ])
              refine wpAnyH_take (i := 20) (v := ?_) rfl (by kernel_rfl) (by kernel_rfl) (by kernel_rfl) (fun _ _ _ h => h) (Or.inl ⟨by rfl, ?_⟩) (by assumption) ?_
              rotate_left
              · (intro w hSw; (try dsimp only at hSw); go_simp; try with_reducible rfl)
              (try simp only [Act.put, List.setIfInBounds_toArray, List.set_cons_zero, List.set_cons_succ])
              refine wpAnyH_take (i := 21) (v := ?_) rfl (by kernel_rfl) (by kernel_rfl) (by kernel_rfl) (fun _ _ _ h => h) (Or.inl ⟨by rfl, ?_⟩) (by assumption) ?_
              rotate_left
              · (intro w hSw; (try dsimp only at hSw); go_simp; try with_reducible rfl)
              (try simp only [Act.put, List.setIfInBounds_toArray, List.set_cons_zero, List.set_cons_succ])
              refine wpAnyH_take (i := 22) (v := ?_) rfl (by kernel_rfl) (by kernel_rfl) (by kernel_rfl) (fun _ _ _ h => h) (Or.inl ⟨by rfl, ?_⟩) (by assumption) ?_
              rotate_left
              · (intro w hSw; (try dsimp only at hSw); go_simp; try with_reducible rfl)
              (try simp only [Act.put, List.setIfInBounds_toArray, List.set_cons_zero, List.set_cons_succ])
              refine wpAnyH_done (by kernel_rfl) ?_ _
              refine tail_run rfl rfl ?_
              clear hH14
              go_simp
              go_wp2_with fail
              go_meet
              first | refine HFIN.out _ _ _ _ _ ?_ ?_ HS6.out | refine HFIN.out _ _ _ _ _ ?_ ?_ HS6.out.up1.tail
              · omega
              · exact tCells_new _ _ _
            exact AllReadyH.nil
          exact AllReadyH.nil
        exact AllReadyH.nil
      exact AllReadyH.nil
    exact AllReadyH.nil
  case rest =>
  obtain ⟨p6, q6, hcut⟩ := hcut
  obtain ⟨V, hV⟩ : ∃ V : World, V = wc := ⟨_, rfl⟩
  rw [← hV] at hcut ⊢
  have HS2 := Lib.hid hcut
  clear hcut hV HS HM0 HM01 HM10 ka0 ka1 ka01 ka10 b0 HFIN mixed SHM0 SHM01 SHM10 HT1 HD1 HONE
  obtain ⟨k, hk⟩ : ∃ k, k = (ta : RTP).length := ⟨_, rfl⟩
  have HYK : Hid (((ta ++ (⟨n, [], []⟩, .slice none 0 0, .slice none 0 0) :: tb) : RTP)[k]? = some (⟨n, [], []⟩, .slice none 0 0, .slice none 0 0)) := tv_mid hk
  have HKA : Hid (k = a) := by have := HTA.out; show k = a; omega
  obtain ⟨g6, rfl, ⟨c0, c1, c2⟩, _⟩ := ref_cells HS2.out HYK.out
  have b0 := (ref_tab HS2.out).1
  have HK := Lib.hid hk
  clear hk
  obtain rfl := HKA.out
  have HFR := Lib.hid (rfree_any V n (v := .slice none 0 0) (.slice none 0 0) (l := []) (.inl ⟨rfl, rfl⟩) (by simp) h want)
  rw [show freeL [] h want = true from rfl] at HFR
  have HEN2 : Hid (∀ (V : World) (p4 : Option Addr) (q4 : Nat), Sep w V (rowRes 76 2 (.slice p4 (0 + 1) q4) (0 + 1) (wCells [] ++ (#[Value.int .i64 h, .int .i64 want] : Array Value).toList) :: openR b (some ⟨g6, 0, none⟩) (N + 1) q6 (ta ++ (⟨n, [], []⟩, .slice none 0 0, .slice none 0 0) :: tb) L) →
      Sep w (V.setCell ⟨g6, k * 3 + 1, none⟩ (.slice p4 (0 + 1) q4)) (refRes b t' :: L)) := by
    intro V p4 q4 hv
    rw [← wCells_snoc] at hv
    have h1 := ref_setHas hv rfl (k := k) (by rw [← HK.out])
    refine ref_shut h1 HLT.out.symm ?_
    rw [HEND.out, List.map_append, List.map_cons]
    rfl
  have hkn : (k : Nat) < N + 1 := by omega
  go_upto_region 18 with fail
  go_wp2_with (go_at_call 33; refine HFR.out.mono ?_; rintro e w2 ⟨rfl, ho2⟩; have hs2 := HS2.out.only ho2; obtain ⟨_, e2, ⟨d0, d1, d2⟩, _⟩ := ref_cells hs2 HYK.out; cases e2; have HWO := Lib.hid (rwithout_any (l := []) hs2.up2 held_mem.1 (by simp) h); clear c0 c1 c2 ho2 hs2)
  have HWO2 : Hid (Calls Tryd.prog 34 #[.slice none 0 0, .int .i64 h] w2 fun e W' => ∃ p q, e = .returned (.slice p 0 q) ∧ Sep w W' (rowRes 76 2 (.slice p 0 q) 0 (wCells []) :: heldsRes (tHelds (ta ++ (⟨n, [], []⟩, .slice none 0 0, .slice none 0 0) :: tb)) :: blkRes b (.cells #[.slice (some ⟨g6, 0, none⟩) (N + 1) q6] 28 (0, 0)) :: rowRes 71 3 (.slice (some ⟨g6, 0, none⟩) (N + 1) q6) (N + 1) (tCells (ta ++ (⟨n, [], []⟩, .slice none 0 0, .slice none 0 0) :: tb)) :: L)) := HWO.out
  clear HWO
  go_upto_region 19 with fail
  go_wp2_with (first | (at_builtin; refine wpList_append_sep (w := w) (cs := #[.int .i64 h, .int .i64 want]) (e := 76) rfl (.tmp 132) (.tmp 136) 69 rfl ii _ 2 16 Tryd.underlying69 II.out rfl (by decide) _ _ _ rfl rfl rfl rfl (by simp [Value.oneCell']) HS3.out (by unfold maxLen; omega) (by omega) ?_; intro p4 q4 w4 hs4; obtain ⟨_, e4, ⟨_, d1, _⟩, ⟨_, f1, _⟩⟩ := ref_cells hs4.tail HYK.out; cases e4; have HS4 := Lib.hid (HEN2.out w4 p4 q4 hs4); clear hs4) | (go_at_call 34; refine HWO2.out.mono ?_; rintro e w3 ⟨p3, q3, rfl, hs3⟩; have HS3 := Lib.hid (open_perm hs3); clear hs3 d0 d1 d2))
  go_ret
  exact ⟨rfl, HS4.out⟩

set_option maxRecDepth 100000 in
set_option maxHeartbeats 40000000 in
theorem rtn_e {w W : World} {L : List Res} {b : Nat} {a g : Nat} {ta : RTP} {n : ByteArray} {h want : Int} {t' : Tab}
    (a1 : ¬ h < 1) (a2 : ¬ 1000 < h) (a3 : ¬ (64 : Int) < (n.size : Int)) (a4 : ¬ want < 1) (a5 : ¬ 2 < want)
    (HW : Hid (Calls Tryd.prog 19 #[.pointer (some ⟨b, 0, none⟩), .int .i64 h] W fun e W' => e = .returned (.tuple #[.string ⟨#[]⟩, .bool false]) ∧ W = W'))
    (HM : Hid (Calls Tryd.prog 21 #[.pointer (some ⟨b, 0, none⟩), .int .i64 h, .string n] W fun e W' => e = .returned (.int .i64 0) ∧ W = W'))
    (HF : Hid (Calls Tryd.prog 32 #[.pointer (some ⟨b, 0, none⟩), .string n] W fun e W' => e = .returned (.int .i64 (-1)) ∧ W = W'))
    (HS : Hid (Sep w W (openR b (some ⟨g, 0, none⟩) a a (ta ++ []) L))) (hlN : a < 256) (HTA : Hid (a = ta.length)) (HLO : Hid (∀ j, j < a → ∃ nm, W.cell? ⟨g, j * 3, none⟩ = some (.string nm) ∧ (j < a → ltB nm n) ∧ (j = a → ¬ ltB nm n)))
    (HEND : Hid (t' = ((ta : RTP).map Prod.fst) ++ ⟨n, [(h, want)], []⟩ :: (([] : RTP).map Prod.fst))) (HLT : Hid (t'.length = a + 1)) :
    Calls Tryd.prog 14 #[.pointer (some ⟨b, 0, none⟩), .int .i64 h, .string n, .int .i64 want] W fun e W' => e = .returned (.int .i64 0) ∧ Sep w W' (refRes b t' :: L) := by
  obtain ⟨ie, IE⟩ := info_of Tryd.infoThing
  obtain ⟨ii, II⟩ := info_of Tryd.infoHeld
  have b0 := (ref_tab HS.out).1
  have hw0 : ¬ want ≤ 0 := by omega
  have hl6 : ¬ ((a : Int) = 256) := by omega
  have mixed : Tryd.prog.follows .mixedOrders = true := by kernel_rfl
  have HFIN : Hid (∀ (V : World) (p6 : Option Addr) (q6 m : Nat) (xs : List Value), m = a + 1 → xs = tCells (ta ++ (⟨n, [], []⟩, .slice none 0 0, .slice none 0 0) :: []) → Sep w V (rowRes 71 3 (.slice p6 m q6) m xs :: openR b (some ⟨g, 0, none⟩) a a (ta ++ []) L) → ∃ p q, Sep w (V.setCell ⟨b, 0, none⟩ (.slice p6 m q6)) (openR b p (a + 1) q (ta ++ (⟨n, [], []⟩, .slice none 0 0, .slice none 0 0) :: []) L)) := by
    intro V p6 q6 m xs hm hx hv
    subst hm
    exact ⟨_, _, ref_new (v := .slice none 0 0) hv hx⟩
  have HONE := Lib.hid (tCells_one HS.out.up2)
  go_enter Tryd.func14, Tryd.ntmps14
  go_upto_block 0 with (first | (go_at_call 19; refine HW.out.mono ?_; rintro e w2 ⟨rfl, rfl⟩) | (go_at_call 21; refine HM.out.mono ?_; rintro e w2 ⟨rfl, rfl⟩) | (go_at_call 32; refine HF.out.mono ?_; rintro e w2 ⟨rfl, rfl⟩))
  go_cut [12] (fun s12 wx => s12 = .int .i64 (a : Nat) ∧ W = wx)
  case first =>
    go_wp2_with fail
    go_loopw [12] (fun s12 wr => ∃ i : Nat, i ≤ a ∧ s12 = .int .i64 i ∧ W = wr) (fun s12 _ => a - (intOf s12).toNat)
    case atStart => exact ⟨0, Nat.zero_le _, rfl, rfl⟩
    case round =>
      obtain ⟨i, hi, rfl, rfl⟩ := hrel
      by_cases hlt : i < a
      · obtain ⟨nm, r0, l1, l2⟩ := HLO.out i hlt
        by_cases hc : i < a
        · have hb1 := lessB_true (l1 hc)
          clear l1 l2
          go_wp2_with fail
          go_roundw
          case rel => exact ⟨i + 1, by omega, by go_num, trivial⟩
          case measure => simp [intOf]; omega
        · exact absurd hlt hc
      · have hia : i = a := by omega
        have HIA := Lib.hid hia
        clear hia
        go_wp2_with fail
        go_meet
        exact ⟨by rw [HIA.out], rfl⟩
  case rest =>
  obtain ⟨rfl, rfl⟩ := hcut
  clear HW HM HF HLO
  have HM0 : Hid (Sep w (W.alloc (.cells #[] 71)).drew (rowRes 71 3 (.slice (some ⟨W.heap.size, 0, none⟩) 0 0) (0) ([]) :: openR b (some ⟨g, 0, none⟩) a a (ta ++ []) L)) := (HS.out.row_made 71 3).drew
  have HM01 : Hid (Sep w ((W.alloc (.cells #[] 71)).alloc (.cells #[.string n, .slice none 0 0, .slice none 0 0] 71)).drew (rowRes 71 3 (.slice (some ⟨W.heap.size, 0, none⟩) 0 0) (0) ([]) :: blkRes (W.heap.size + 1) (.cells #[.string n, .slice none 0 0, .slice none 0 0] 71 (0, 0)) :: openR b (some ⟨g, 0, none⟩) a a (ta ++ []) L)) := by
    have hz := ((HS.out.row_made 71 3).alloc #[.string n, .slice none 0 0, .slice none 0 0] 71).up1.drew
    rw [show (W.alloc (.cells #[] 71)).heap.size = W.heap.size + 1 from by simp] at hz
    exact hz
  have HM10 : Hid (Sep w ((W.alloc (.cells #[.string n, .slice none 0 0, .slice none 0 0] 71)).alloc (.cells #[] 71)).drew (rowRes 71 3 (.slice (some ⟨W.heap.size + 1, 0, none⟩) 0 0) (0) ([]) :: blkRes W.heap.size (.cells #[.string n, .slice none 0 0, .slice none 0 0] 71 (0, 0)) :: openR b (some ⟨g, 0, none⟩) a a (ta ++ []) L)) := by
    have hz := ((HS.out.alloc #[.string n, .slice none 0 0, .slice none 0 0] 71).row_made 71 3).drew
    rw [show (W.alloc (.cells #[.string n, .slice none 0 0, .slice none 0 0] 71)).heap.size = W.heap.size + 1 from by simp] at hz
    exact hz
  have ka0 : (W.alloc (.cells #[] 71)).cell? ⟨b, 0, none⟩ = some (.slice (some ⟨g, 0, none⟩) a a) := Lib.cell?_alloc_some _ b0
  have ka1 : (W.alloc (.cells #[.string n, .slice none 0 0, .slice none 0 0] 71)).cell? ⟨b, 0, none⟩ = some (.slice (some ⟨g, 0, none⟩) a a) := Lib.cell?_alloc_some _ b0
  have ka01 : ((W.alloc (.cells #[] 71)).alloc (.cells #[.string n, .slice none 0 0, .slice none 0 0] 71)).cell? ⟨b, 0, none⟩ = some (.slice (some ⟨g, 0, none⟩) a a) := Lib.cell?_alloc_some _ ka0
  have ka10 : ((W.alloc (.cells #[.string n, .slice none 0 0, .slice none 0 0] 71)).alloc (.cells #[] 71)).cell? ⟨b, 0, none⟩ = some (.slice (some ⟨g, 0, none⟩) a a) := Lib.cell?_alloc_some _ ka1
  have SHM0 := Lib.hid (t_take HM0.out.tail)
  have SHM01 := Lib.hid (t_take HM01.out.tail.tail)
  have SHM10 := Lib.hid (t_take HM10.out.tail.tail)
  have HT1 := Lib.hid (OneT.left HONE.out)
  have HD1 := Lib.hid (OneT.right HONE.out)
  go_upto_region 16 with fail
  go_cut [] (fun wx => ∃ p q, Sep w wx (openR b p (a + 1) q (ta ++ (⟨n, [], []⟩, .slice none 0 0, .slice none 0 0) :: []) L))
  case first =>
    go_wp2_with fail
    refine wp_region_last (S := (fun w' => w'.cell? ⟨b, 0, none⟩ = some (.slice (some ⟨g, 0, none⟩) a a))) (by kernel_rfl) 22 _ rfl rfl rfl (by kernel_rfl) [21, 20, 19, 18, 17, 16, 15, 14, 13, 12, 11, 10, 9, 8, 7, 6, 5, 4, 3, 2, 1, 0] (by kernel_rfl) (by kernel_rfl) ?_ (fun hHeld => ?_)
    · (try dsimp only); (first | go_keep | assumption)
    simp only [lull, List.setIfInBounds_toArray, List.set_cons_succ, List.set_cons_zero]
    refine wpAnyH_take (i := 0) (v := ?_) rfl (by kernel_rfl) (by kernel_rfl) (by kernel_rfl) (fun _ _ _ h => h) (Or.inl ⟨by rfl, ?_⟩) (by assumption) ?_
    rotate_left
    · (intro w hSw; (try dsimp only at hSw); go_simp; try with_reducible rfl)
    (try simp only [Act.put, List.setIfInBounds_toArray, List.set_cons_zero, List.set_cons_succ])
    refine wpAnyH_take (i := 2) (v := ?_) rfl (by kernel_rfl) (by kernel_rfl) (by kernel_rfl) (fun _ _ _ h => h) (Or.inl ⟨by rfl, ?_⟩) (by assumption) ?_
    rotate_left
    · (intro w hSw; (try dsimp only at hSw); go_simp; try with_reducible rfl)
    (try simp only [Act.put, List.setIfInBounds_toArray, List.set_cons_zero, List.set_cons_succ])
    refine wpAnyH_take (i := 3) (v := ?_) rfl (by kernel_rfl) (by kernel_rfl) (by kernel_rfl) (fun _ _ _ h => h) (Or.inl ⟨by rfl, ?_⟩) (by assumption) ?_
    rotate_left
    · (intro w hSw; (try dsimp only at hSw); go_simp; try with_reducible rfl)
    (try simp only [Act.put, List.setIfInBounds_toArray, List.set_cons_zero, List.set_cons_succ])
    refine wpAnyH_take (i := 4) (v := ?_) rfl (by kernel_rfl) (by kernel_rfl) (by kernel_rfl) (fun _ _ _ h => h) (Or.inl ⟨by rfl, ?_⟩) (by assumption) ?_
    rotate_left
    · (intro w hSw; (try dsimp only at hSw); go_simp; try with_reducible rfl)
    (try simp only [Act.put, List.setIfInBounds_toArray, List.set_cons_zero, List.set_cons_succ])
    refine wpAnyH_take (i := 5) (v := ?_) rfl (by kernel_rfl) (by kernel_rfl) (by kernel_rfl) (fun _ _ _ h => h) (Or.inl ⟨by rfl, ?_⟩) (by assumption) ?_
    rotate_left
    · (intro w hSw; (try dsimp only at hSw); go_simp; try with_reducible rfl)
    (try simp only [Act.put, List.setIfInBounds_toArray, List.set_cons_zero, List.set_cons_succ])
    refine wpAnyH_take (i := 6) (v := ?_) rfl (by kernel_rfl) (by kernel_rfl) (by kernel_rfl) (fun _ _ _ h => h) (Or.inl ⟨by rfl, ?_⟩) (by assumption) ?_
    rotate_left
    · (intro w hSw; (try dsimp only at hSw); go_simp; try with_reducible rfl)
    (try simp only [Act.put, List.setIfInBounds_toArray, List.set_cons_zero, List.set_cons_succ])
    refine wpAnyH_take (i := 7) (v := ?_) rfl (by kernel_rfl) (by kernel_rfl) (by kernel_rfl) (fun _ _ _ h => h) (Or.inl ⟨by rfl, ?_⟩) (by assumption) ?_
    rotate_left
    · (intro w hSw; (try dsimp only at hSw); go_simp; try with_reducible rfl)
    (try simp only [Act.put, List.setIfInBounds_toArray, List.set_cons_zero, List.set_cons_succ])
    refine wpAnyH_take (i := 9) (v := ?_) rfl (by kernel_rfl) (by kernel_rfl) (by kernel_rfl) (fun _ _ _ h => h) (Or.inl ⟨by rfl, ?_⟩) (by assumption) ?_
    rotate_left
    · (intro w hSw; (try dsimp only at hSw); go_simp; try with_reducible rfl)
    (try simp only [Act.put, List.setIfInBounds_toArray, List.set_cons_zero, List.set_cons_succ])
    refine wpAnyH_take (i := 10) (v := ?_) rfl (by kernel_rfl) (by kernel_rfl) (by kernel_rfl) (fun _ _ _ h => h) (Or.inl ⟨by rfl, ?_⟩) (by assumption) ?_
    rotate_left
    · (intro w hSw; (try dsimp only at hSw); go_simp; try with_reducible rfl)
    (try simp only [Act.put, List.setIfInBounds_toArray, List.set_cons_zero, List.set_cons_succ])
    refine wpAnyH_take (i := 13) (v := ?_) rfl (by kernel_rfl) (by kernel_rfl) (by kernel_rfl) (fun _ _ _ h => h) (Or.inl ⟨by rfl, ?_⟩) (by assumption) ?_
    rotate_left
    · (intro w hSw; (try dsimp only at hSw); go_simp; try with_reducible rfl)
    (try simp only [Act.put, List.setIfInBounds_toArray, List.set_cons_zero, List.set_cons_succ])
    refine wpAnyH_take (i := 14) (v := ?_) rfl (by kernel_rfl) (by kernel_rfl) (by kernel_rfl) (fun _ _ _ h => h) (Or.inl ⟨by rfl, ?_⟩) (by assumption) ?_
    rotate_left
    · (intro w hSw; (try dsimp only at hSw); go_simp; try with_reducible rfl)
    (try simp only [Act.put, List.setIfInBounds_toArray, List.set_cons_zero, List.set_cons_succ])
    refine wpAnyH_take (i := 15) (v := ?_) rfl (by kernel_rfl) (by kernel_rfl) (by kernel_rfl) (fun _ _ _ h => h) (Or.inl ⟨by rfl, ?_⟩) (by assumption) ?_
    rotate_left
    · (intro w hSw; (try dsimp only at hSw); go_simp; try with_reducible rfl)
    (try simp only [Act.put, List.setIfInBounds_toArray, List.set_cons_zero, List.set_cons_succ])
    refine wpAnyH_take (i := 16) (v := ?_) rfl (by kernel_rfl) (by kernel_rfl) (by kernel_rfl) (fun _ _ _ h => h) (Or.inl ⟨by rfl, ?_⟩) (by assumption) ?_
    rotate_left
    · (intro w hSw; (try dsimp only at hSw); go_simp; try with_reducible rfl)
    (try simp only [Act.put, List.setIfInBounds_toArray, List.set_cons_zero, List.set_cons_succ])
    refine wpAnyH_take (i := 17) (v := ?_) rfl (by kernel_rfl) (by kernel_rfl) (by kernel_rfl) (fun _ _ _ h => h) (Or.inl ⟨by rfl, ?_⟩) (by assumption) ?_
    rotate_left
    · (intro w hSw; (try dsimp only at hSw); go_simp; try with_reducible rfl)
    (try simp only [Act.put, List.setIfInBounds_toArray, List.set_cons_zero, List.set_cons_succ])
    refine wpAnyH_take (i := 18) (v := ?_) rfl (by kernel_rfl) (by kernel_rfl) (by kernel_rfl) (fun _ _ _ h => h) (Or.inl ⟨by rfl, ?_⟩) (by assumption) ?_
    rotate_left
    · (intro w hSw; (try dsimp only at hSw); go_simp; try with_reducible rfl)
    (try simp only [Act.put, List.setIfInBounds_toArray, List.set_cons_zero, List.set_cons_succ])
    refine wpAnyH_ready (rs := [1, 11]) (by kernel_rfl) (by simp) ?_
    refine AllReadyH.cons rfl (fun K hK => ?_) ?_
    · go_simp
      refine hK.out _ _ ?_ (fun hH1 => ?_)
      · (try dsimp only); (first | go_keep | assumption)
      clear hK K hHeld
      (try simp only [Act.put, List.setIfInBounds_toArray, List.set_cons_zero, List.set_cons_succ])
      refine wpAnyH_ready (rs := [8, 11]) (by kernel_rfl) (by simp) ?_
      refine AllReadyH.cons rfl (fun K hK => ?_) ?_
      · first | (refine step_append_srcR (w := w) (e := 71) rfl (.tmp 81) (.tmp 87) 26 rfl ie _ 3 64 Tryd.underlying26 IE.out rfl (by decide) (.slice (some ⟨W.heap.size, 0, none⟩) 0 0) 0 [] rfl (some ⟨g, 0, none⟩) a a (tCells ta) rfl (by rw [tCells_len, HTA.out]) SHM0.out HT1.out HM0.out (by unfold maxLen; omega) (by omega) ?_; intro p4 q4 w4 hs4; rw [Nat.zero_add, List.nil_append] at hs4; rw [Nat.zero_add]; have HS4 := Lib.hid hs4; clear hs4; have kn4 := (ref_tab HS4.out.tail).1; have kn5 : (w4.alloc (.cells #[.string n, .slice none 0 0, .slice none 0 0] 71)).cell? ⟨b, 0, none⟩ = some (.slice (some ⟨g, 0, none⟩) a a) := Lib.cell?_alloc_some _ kn4) | (refine step_append_srcR (w := w) (e := 71) rfl (.tmp 81) (.tmp 87) 26 rfl ie _ 3 64 Tryd.underlying26 IE.out rfl (by decide) (.slice (some ⟨W.heap.size, 0, none⟩) 0 0) 0 [] rfl (some ⟨g, 0, none⟩) a a (tCells ta) rfl (by rw [tCells_len, HTA.out]) SHM01.out HT1.out HM01.out (by unfold maxLen; omega) (by omega) ?_; intro p4 q4 w4 hs4; rw [Nat.zero_add, List.nil_append] at hs4; rw [Nat.zero_add]; have HS4 := Lib.hid hs4; clear hs4; have kn4 := (ref_tab HS4.out.tail.tail).1) | (refine step_append_srcR (w := w) (e := 71) rfl (.tmp 81) (.tmp 87) 26 rfl ie _ 3 64 Tryd.underlying26 IE.out rfl (by decide) (.slice (some ⟨W.heap.size + 1, 0, none⟩) 0 0) 0 [] rfl (some ⟨g, 0, none⟩) a a (tCells ta) rfl (by rw [tCells_len, HTA.out]) SHM10.out HT1.out HM10.out (by unfold maxLen; omega) (by omega) ?_; intro p4 q4 w4 hs4; rw [Nat.zero_add, List.nil_append] at hs4; rw [Nat.zero_add]; have HS4 := Lib.hid hs4; clear hs4; have kn4 := (ref_tab HS4.out.tail.tail).1)
        refine hK.out _ _ ?_ (fun hH2 => ?_)
        · (try dsimp only); (first | go_keep | assumption)
        clear hK K hH1
        (try simp only [Act.put, List.setIfInBounds_toArray, List.set_cons_zero, List.set_cons_succ])
        refine wpAnyH_ready (rs := [11]) (by kernel_rfl) (by simp) ?_
        refine AllReadyH.cons rfl (fun K hK => ?_) ?_
        · go_simp
          refine hK.out _ _ ?_ (fun hH3 => ?_)
          · (try dsimp only); (first | go_keep | assumption)
          clear hK K hH2
          (try simp only [Act.put, List.setIfInBounds_toArray, List.set_cons_zero, List.set_cons_succ])
          refine wpAnyH_ready (rs := [12]) (by kernel_rfl) (by simp) ?_
          refine AllReadyH.cons rfl (fun K hK => ?_) ?_
          · first | (refine step_append_sep (w := w) (e := 71) (B := (W.heap.size + 1)) rfl (.tmp 88) (.tmp 91) 26 rfl ie _ 3 64 Tryd.underlying26 IE.out rfl (by decide) (.slice p4 a q4) a (tCells ta) rfl rfl (HS4.out.up1.blk) rfl (thing_one n) HS4.out (by unfold maxLen; omega) (by omega) ?_; intro p5 q5 w5 hs5; have HS5 := Lib.hid hs5; clear hs5; have kn6 := (ref_tab HS5.out.tail.tail).1) | (refine step_append_sep (w := w) (e := 71) (B := W.heap.size) rfl (.tmp 88) (.tmp 91) 26 rfl ie _ 3 64 Tryd.underlying26 IE.out rfl (by decide) (.slice p4 a q4) a (tCells ta) rfl rfl (HS4.out.up1.blk) rfl (thing_one n) HS4.out (by unfold maxLen; omega) (by omega) ?_; intro p5 q5 w5 hs5; have HS5 := Lib.hid hs5; clear hs5; have kn6 := (ref_tab HS5.out.tail.tail).1) | (refine step_append_sep (w := w) (e := 71) (B := w4.heap.size) rfl (.tmp 88) (.tmp 91) 26 rfl ie _ 3 64 Tryd.underlying26 IE.out rfl (by decide) (.slice p4 a q4) a (tCells ta) rfl rfl (heap_alloc_self) rfl (thing_one n) (HS4.out.forget (.cells #[.string n, .slice none 0 0, .slice none 0 0] 71)) (by unfold maxLen; omega) (by omega) ?_; intro p5 q5 w5 hs5; have HS5 := Lib.hid hs5; clear hs5; have kn6 := (ref_tab HS5.out.tail).1)
            refine hK.out _ _ ?_ (fun hH4 => ?_)
            · (try dsimp only); (first | go_keep | assumption)
            clear hK K hH3
            (try simp only [Act.put, List.setIfInBounds_toArray, List.set_cons_zero, List.set_cons_succ])
            refine wpAnyH_ready (rs := [19]) (by kernel_rfl) (by simp) ?_
            refine AllReadyH.cons rfl (fun K hK => ?_) ?_
            · (refine step_append_srcR (w := w) (e := 71) rfl (.tmp 92) (.tmp 98) 26 rfl ie _ 3 64 Tryd.underlying26 IE.out rfl (by decide) (.slice p5 (a + 1) q5) (a + 1) (tCells ta ++ (#[.string n, .slice none 0 0, .slice none 0 0] : Array Value).toList) rfl (some ⟨g, 0, none⟩) 0 0 (tCells []) rfl rfl no_tcells (fun u hu => by simp [tCells] at hu) HS5.out (by unfold maxLen; omega) (by omega) ?_; intro p6 q6 w6 hs6; have HS6 := Lib.hid hs6; clear hs6; have kn7 : w6.cell? ⟨b, 0, none⟩ = some (.slice (some ⟨g, 0, none⟩) a a) := (by first | exact (ref_tab HS6.out.tail).1 | exact (ref_tab HS6.out.tail.tail).1); have fn7 : w6.frozen? ⟨b, 0, none⟩ = false := (by first | exact (ref_tab HS6.out.tail).2 | exact (ref_tab HS6.out.tail.tail).2))
              refine hK.out _ _ ?_ (fun hH5 => ?_)
              · (try dsimp only); (first | go_keep | assumption)
              clear hK K hH4
              (try simp only [Act.put, List.setIfInBounds_toArray, List.set_cons_zero, List.set_cons_succ])
              refine wpAnyH_take (i := 20) (v := ?_) rfl (by kernel_rfl) (by kernel_rfl) (by kernel_rfl) (fun _ _ _ h => h) (Or.inl ⟨by rfl, ?_⟩) (by assumption) ?_
              rotate_left
              · (intro w hSw; (try dsimp only at hSw); go_simp; try with_reducible rfl)
              (try simp only [Act.put, List.setIfInBounds_toArray, List.set_cons_zero, List.set_cons_succ])
              refine wpAnyH_take (i := 21) (v := ?_) rfl (by kernel_rfl) (by kernel_rfl) (by kernel_rfl) (fun _ _ _ h => h) (Or.inl ⟨by rfl, ?_⟩) (by assumption) ?_
              rotate_left
              · (intro w hSw; (try dsimp only at hSw); go_simp; try with_reducible rfl)
              (try simp only [Act.put, List.setIfInBounds_toArray, List.set_cons_zero, List.set_cons_succ])
              refine wpAnyH_take (i := 22) (v := ?_) rfl (by kernel_rfl) (by kernel_rfl) (by kernel_rfl) (fun _ _ _ h => h) (Or.inl ⟨by rfl, ?_⟩) (by assumption) ?_
              rotate_left
              · (intro w hSw; (try dsimp only at hSw); go_simp; try with_reducible rfl)
              (try simp only [Act.put, List.setIfInBounds_toArray, List.set_cons_zero, List.set_cons_succ])
              refine wpAnyH_done (by kernel_rfl) ?_ _
              refine tail_run rfl rfl ?_
              clear hH5
              go_simp
              go_wp2_with fail
              go_meet
              first | refine HFIN.out _ _ _ _ _ ?_ ?_ HS6.out | refine HFIN.out _ _ _ _ _ ?_ ?_ HS6.out.up1.tail
              · omega
              · exact tCells_new _ _ _
            exact AllReadyH.nil
          exact AllReadyH.nil
        exact AllReadyH.nil
      refine AllReadyH.cons rfl (fun K hK => ?_) ?_
      · go_simp
        refine hK.out _ _ ?_ (fun hH6 => ?_)
        · (try dsimp only); (first | go_keep | assumption)
        clear hK K hH1
        (try simp only [Act.put, List.setIfInBounds_toArray, List.set_cons_zero, List.set_cons_succ])
        refine wpAnyH_ready (rs := [8]) (by kernel_rfl) (by simp) ?_
        refine AllReadyH.cons rfl (fun K hK => ?_) ?_
        · first | (refine step_append_srcR (w := w) (e := 71) rfl (.tmp 81) (.tmp 87) 26 rfl ie _ 3 64 Tryd.underlying26 IE.out rfl (by decide) (.slice (some ⟨W.heap.size, 0, none⟩) 0 0) 0 [] rfl (some ⟨g, 0, none⟩) a a (tCells ta) rfl (by rw [tCells_len, HTA.out]) SHM0.out HT1.out HM0.out (by unfold maxLen; omega) (by omega) ?_; intro p4 q4 w4 hs4; rw [Nat.zero_add, List.nil_append] at hs4; rw [Nat.zero_add]; have HS4 := Lib.hid hs4; clear hs4; have kn4 := (ref_tab HS4.out.tail).1; have kn5 : (w4.alloc (.cells #[.string n, .slice none 0 0, .slice none 0 0] 71)).cell? ⟨b, 0, none⟩ = some (.slice (some ⟨g, 0, none⟩) a a) := Lib.cell?_alloc_some _ kn4) | (refine step_append_srcR (w := w) (e := 71) rfl (.tmp 81) (.tmp 87) 26 rfl ie _ 3 64 Tryd.underlying26 IE.out rfl (by decide) (.slice (some ⟨W.heap.size, 0, none⟩) 0 0) 0 [] rfl (some ⟨g, 0, none⟩) a a (tCells ta) rfl (by rw [tCells_len, HTA.out]) SHM01.out HT1.out HM01.out (by unfold maxLen; omega) (by omega) ?_; intro p4 q4 w4 hs4; rw [Nat.zero_add, List.nil_append] at hs4; rw [Nat.zero_add]; have HS4 := Lib.hid hs4; clear hs4; have kn4 := (ref_tab HS4.out.tail.tail).1) | (refine step_append_srcR (w := w) (e := 71) rfl (.tmp 81) (.tmp 87) 26 rfl ie _ 3 64 Tryd.underlying26 IE.out rfl (by decide) (.slice (some ⟨W.heap.size + 1, 0, none⟩) 0 0) 0 [] rfl (some ⟨g, 0, none⟩) a a (tCells ta) rfl (by rw [tCells_len, HTA.out]) SHM10.out HT1.out HM10.out (by unfold maxLen; omega) (by omega) ?_; intro p4 q4 w4 hs4; rw [Nat.zero_add, List.nil_append] at hs4; rw [Nat.zero_add]; have HS4 := Lib.hid hs4; clear hs4; have kn4 := (ref_tab HS4.out.tail.tail).1)
          refine hK.out _ _ ?_ (fun hH7 => ?_)
          · (try dsimp only); (first | go_keep | assumption)
          clear hK K hH6
          (try simp only [Act.put, List.setIfInBounds_toArray, List.set_cons_zero, List.set_cons_succ])
          refine wpAnyH_ready (rs := [12]) (by kernel_rfl) (by simp) ?_
          refine AllReadyH.cons rfl (fun K hK => ?_) ?_
          · first | (refine step_append_sep (w := w) (e := 71) (B := (W.heap.size + 1)) rfl (.tmp 88) (.tmp 91) 26 rfl ie _ 3 64 Tryd.underlying26 IE.out rfl (by decide) (.slice p4 a q4) a (tCells ta) rfl rfl (HS4.out.up1.blk) rfl (thing_one n) HS4.out (by unfold maxLen; omega) (by omega) ?_; intro p5 q5 w5 hs5; have HS5 := Lib.hid hs5; clear hs5; have kn6 := (ref_tab HS5.out.tail.tail).1) | (refine step_append_sep (w := w) (e := 71) (B := W.heap.size) rfl (.tmp 88) (.tmp 91) 26 rfl ie _ 3 64 Tryd.underlying26 IE.out rfl (by decide) (.slice p4 a q4) a (tCells ta) rfl rfl (HS4.out.up1.blk) rfl (thing_one n) HS4.out (by unfold maxLen; omega) (by omega) ?_; intro p5 q5 w5 hs5; have HS5 := Lib.hid hs5; clear hs5; have kn6 := (ref_tab HS5.out.tail.tail).1) | (refine step_append_sep (w := w) (e := 71) (B := w4.heap.size) rfl (.tmp 88) (.tmp 91) 26 rfl ie _ 3 64 Tryd.underlying26 IE.out rfl (by decide) (.slice p4 a q4) a (tCells ta) rfl rfl (heap_alloc_self) rfl (thing_one n) (HS4.out.forget (.cells #[.string n, .slice none 0 0, .slice none 0 0] 71)) (by unfold maxLen; omega) (by omega) ?_; intro p5 q5 w5 hs5; have HS5 := Lib.hid hs5; clear hs5; have kn6 := (ref_tab HS5.out.tail).1)
            refine hK.out _ _ ?_ (fun hH8 => ?_)
            · (try dsimp only); (first | go_keep | assumption)
            clear hK K hH7
            (try simp only [Act.put, List.setIfInBounds_toArray, List.set_cons_zero, List.set_cons_succ])
            refine wpAnyH_ready (rs := [19]) (by kernel_rfl) (by simp) ?_
            refine AllReadyH.cons rfl (fun K hK => ?_) ?_
            · (refine step_append_srcR (w := w) (e := 71) rfl (.tmp 92) (.tmp 98) 26 rfl ie _ 3 64 Tryd.underlying26 IE.out rfl (by decide) (.slice p5 (a + 1) q5) (a + 1) (tCells ta ++ (#[.string n, .slice none 0 0, .slice none 0 0] : Array Value).toList) rfl (some ⟨g, 0, none⟩) 0 0 (tCells []) rfl rfl no_tcells (fun u hu => by simp [tCells] at hu) HS5.out (by unfold maxLen; omega) (by omega) ?_; intro p6 q6 w6 hs6; have HS6 := Lib.hid hs6; clear hs6; have kn7 : w6.cell? ⟨b, 0, none⟩ = some (.slice (some ⟨g, 0, none⟩) a a) := (by first | exact (ref_tab HS6.out.tail).1 | exact (ref_tab HS6.out.tail.tail).1); have fn7 : w6.frozen? ⟨b, 0, none⟩ = false := (by first | exact (ref_tab HS6.out.tail).2 | exact (ref_tab HS6.out.tail.tail).2))
              refine hK.out _ _ ?_ (fun hH9 => ?_)
              · (try dsimp only); (first | go_keep | assumption)
              clear hK K hH8
              (try simp only [Act.put, List.setIfInBounds_toArray, List.set_cons_zero, List.set_cons_succ])
              refine wpAnyH_take (i := 20) (v := ?_) rfl (by kernel_rfl) (by kernel_rfl) (by kernel_rfl) (fun _ _ _ h => h) (Or.inl ⟨by rfl, ?_⟩) (by assumption) ?_
              rotate_left
              · (intro w hSw; (try dsimp only at hSw); go_simp; try with_reducible rfl)
              (try simp only [Act.put, List.setIfInBounds_toArray, List.set_cons_zero, List.set_cons_succ])
              refine wpAnyH_take (i := 21) (v := ?_) rfl (by kernel_rfl) (by kernel_rfl) (by kernel_rfl) (fun _ _ _ h => h) (Or.inl ⟨by rfl, ?_⟩) (by assumption) ?_
              rotate_left
              · (intro w hSw; (try dsimp only at hSw); go_simp; try with_reducible rfl)
              (try simp only [Act.put, List.setIfInBounds_toArray, List.set_cons_zero, List.set_cons_succ])
              refine wpAnyH_take (i := 22) (v := ?_) rfl (by kernel_rfl) (by kernel_rfl) (by kernel_rfl) (fun _ _ _ h => h) (Or.inl ⟨by rfl, ?_⟩) (by assumption) ?_
              rotate_left
              · (intro w hSw; (try dsimp only at hSw); go_simp; try with_reducible rfl)
              (try simp only [Act.put, List.setIfInBounds_toArray, List.set_cons_zero, List.set_cons_succ])
              refine wpAnyH_done (by kernel_rfl) ?_ _
              refine tail_run rfl rfl ?_
              clear hH9
              go_simp
              go_wp2_with fail
              go_meet
              first | refine HFIN.out _ _ _ _ _ ?_ ?_ HS6.out | refine HFIN.out _ _ _ _ _ ?_ ?_ HS6.out.up1.tail
              · omega
              · exact tCells_new _ _ _
            exact AllReadyH.nil
          exact AllReadyH.nil
        exact AllReadyH.nil
      exact AllReadyH.nil
    refine AllReadyH.cons rfl (fun K hK => ?_) ?_
    · go_simp
      refine hK.out _ _ ?_ (fun hH10 => ?_)
      · (try dsimp only); (first | go_keep | assumption)
      clear hK K hHeld
      (try simp only [Act.put, List.setIfInBounds_toArray, List.set_cons_zero, List.set_cons_succ])
      refine wpAnyH_ready (rs := [1]) (by kernel_rfl) (by simp) ?_
      refine AllReadyH.cons rfl (fun K hK => ?_) ?_
      · go_simp
        refine hK.out _ _ ?_ (fun hH11 => ?_)
        · (try dsimp only); (first | go_keep | assumption)
        clear hK K hH10
        (try simp only [Act.put, List.setIfInBounds_toArray, List.set_cons_zero, List.set_cons_succ])
        refine wpAnyH_ready (rs := [8]) (by kernel_rfl) (by simp) ?_
        refine AllReadyH.cons rfl (fun K hK => ?_) ?_
        · first | (refine step_append_srcR (w := w) (e := 71) rfl (.tmp 81) (.tmp 87) 26 rfl ie _ 3 64 Tryd.underlying26 IE.out rfl (by decide) (.slice (some ⟨W.heap.size, 0, none⟩) 0 0) 0 [] rfl (some ⟨g, 0, none⟩) a a (tCells ta) rfl (by rw [tCells_len, HTA.out]) SHM0.out HT1.out HM0.out (by unfold maxLen; omega) (by omega) ?_; intro p4 q4 w4 hs4; rw [Nat.zero_add, List.nil_append] at hs4; rw [Nat.zero_add]; have HS4 := Lib.hid hs4; clear hs4; have kn4 := (ref_tab HS4.out.tail).1; have kn5 : (w4.alloc (.cells #[.string n, .slice none 0 0, .slice none 0 0] 71)).cell? ⟨b, 0, none⟩ = some (.slice (some ⟨g, 0, none⟩) a a) := Lib.cell?_alloc_some _ kn4) | (refine step_append_srcR (w := w) (e := 71) rfl (.tmp 81) (.tmp 87) 26 rfl ie _ 3 64 Tryd.underlying26 IE.out rfl (by decide) (.slice (some ⟨W.heap.size, 0, none⟩) 0 0) 0 [] rfl (some ⟨g, 0, none⟩) a a (tCells ta) rfl (by rw [tCells_len, HTA.out]) SHM01.out HT1.out HM01.out (by unfold maxLen; omega) (by omega) ?_; intro p4 q4 w4 hs4; rw [Nat.zero_add, List.nil_append] at hs4; rw [Nat.zero_add]; have HS4 := Lib.hid hs4; clear hs4; have kn4 := (ref_tab HS4.out.tail.tail).1) | (refine step_append_srcR (w := w) (e := 71) rfl (.tmp 81) (.tmp 87) 26 rfl ie _ 3 64 Tryd.underlying26 IE.out rfl (by decide) (.slice (some ⟨W.heap.size + 1, 0, none⟩) 0 0) 0 [] rfl (some ⟨g, 0, none⟩) a a (tCells ta) rfl (by rw [tCells_len, HTA.out]) SHM10.out HT1.out HM10.out (by unfold maxLen; omega) (by omega) ?_; intro p4 q4 w4 hs4; rw [Nat.zero_add, List.nil_append] at hs4; rw [Nat.zero_add]; have HS4 := Lib.hid hs4; clear hs4; have kn4 := (ref_tab HS4.out.tail.tail).1)
          refine hK.out _ _ ?_ (fun hH12 => ?_)
          · (try dsimp only); (first | go_keep | assumption)
          clear hK K hH11
          (try simp only [Act.put, List.setIfInBounds_toArray, List.set_cons_zero, List.set_cons_succ])
          refine wpAnyH_ready (rs := [12]) (by kernel_rfl) (by simp) ?_
          refine AllReadyH.cons rfl (fun K hK => ?_) ?_
          · first | (refine step_append_sep (w := w) (e := 71) (B := (W.heap.size + 1)) rfl (.tmp 88) (.tmp 91) 26 rfl ie _ 3 64 Tryd.underlying26 IE.out rfl (by decide) (.slice p4 a q4) a (tCells ta) rfl rfl (HS4.out.up1.blk) rfl (thing_one n) HS4.out (by unfold maxLen; omega) (by omega) ?_; intro p5 q5 w5 hs5; have HS5 := Lib.hid hs5; clear hs5; have kn6 := (ref_tab HS5.out.tail.tail).1) | (refine step_append_sep (w := w) (e := 71) (B := W.heap.size) rfl (.tmp 88) (.tmp 91) 26 rfl ie _ 3 64 Tryd.underlying26 IE.out rfl (by decide) (.slice p4 a q4) a (tCells ta) rfl rfl (HS4.out.up1.blk) rfl (thing_one n) HS4.out (by unfold maxLen; omega) (by omega) ?_; intro p5 q5 w5 hs5; have HS5 := Lib.hid hs5; clear hs5; have kn6 := (ref_tab HS5.out.tail.tail).1) | (refine step_append_sep (w := w) (e := 71) (B := w4.heap.size) rfl (.tmp 88) (.tmp 91) 26 rfl ie _ 3 64 Tryd.underlying26 IE.out rfl (by decide) (.slice p4 a q4) a (tCells ta) rfl rfl (heap_alloc_self) rfl (thing_one n) (HS4.out.forget (.cells #[.string n, .slice none 0 0, .slice none 0 0] 71)) (by unfold maxLen; omega) (by omega) ?_; intro p5 q5 w5 hs5; have HS5 := Lib.hid hs5; clear hs5; have kn6 := (ref_tab HS5.out.tail).1)
            refine hK.out _ _ ?_ (fun hH13 => ?_)
            · (try dsimp only); (first | go_keep | assumption)
            clear hK K hH12
            (try simp only [Act.put, List.setIfInBounds_toArray, List.set_cons_zero, List.set_cons_succ])
            refine wpAnyH_ready (rs := [19]) (by kernel_rfl) (by simp) ?_
            refine AllReadyH.cons rfl (fun K hK => ?_) ?_
            · (refine step_append_srcR (w := w) (e := 71) rfl (.tmp 92) (.tmp 98) 26 rfl ie _ 3 64 Tryd.underlying26 IE.out rfl (by decide) (.slice p5 (a + 1) q5) (a + 1) (tCells ta ++ (#[.string n, .slice none 0 0, .slice none 0 0] : Array Value).toList) rfl (some ⟨g, 0, none⟩) 0 0 (tCells []) rfl rfl no_tcells (fun u hu => by simp [tCells] at hu) HS5.out (by unfold maxLen; omega) (by omega) ?_; intro p6 q6 w6 hs6; have HS6 := Lib.hid hs6; clear hs6; have kn7 : w6.cell? ⟨b, 0, none⟩ = some (.slice (some ⟨g, 0, none⟩) a a) := (by first | exact (ref_tab HS6.out.tail).1 | exact (ref_tab HS6.out.tail.tail).1); have fn7 : w6.frozen? ⟨b, 0, none⟩ = false := (by first | exact (ref_tab HS6.out.tail).2 | exact (ref_tab HS6.out.tail.tail).2))
              refine hK.out _ _ ?_ (fun hH14 => ?_)
              · (try dsimp only); (first | go_keep | assumption)
              clear hK K hH13
              (try simp only [Act.put, List.setIfInBounds_toArray, List.set_cons_zero, List.set_cons_succ])
              refine wpAnyH_take (i := 20) (v := ?_) rfl (by kernel_rfl) (by kernel_rfl) (by kernel_rfl) (fun _ _ _ h => h) (Or.inl ⟨by rfl, ?_⟩) (by assumption) ?_
              rotate_left
              · (intro w hSw; (try dsimp only at hSw); go_simp; try with_reducible rfl)
              (try simp only [Act.put, List.setIfInBounds_toArray, List.set_cons_zero, List.set_cons_succ])
              refine wpAnyH_take (i := 21) (v := ?_) rfl (by kernel_rfl) (by kernel_rfl) (by kernel_rfl) (fun _ _ _ h => h) (Or.inl ⟨by rfl, ?_⟩) (by assumption) ?_
              rotate_left
              · (intro w hSw; (try dsimp only at hSw); go_simp; try with_reducible rfl)
              (try simp only [Act.put, List.setIfInBounds_toArray, List.set_cons_zero, List.set_cons_succ])
              refine wpAnyH_take (i := 22) (v := ?_) rfl (by kernel_rfl) (by kernel_rfl) (by kernel_rfl) (fun _ _ _ h => h) (Or.inl ⟨by rfl, ?_⟩) (by assumption) ?_
              rotate_left
              · (intro w hSw; (try dsimp only at hSw); go_simp; try with_reducible rfl)
              (try simp only [Act.put, List.setIfInBounds_toArray, List.set_cons_zero, List.set_cons_succ])
              refine wpAnyH_done (by kernel_rfl) ?_ _
              refine tail_run rfl rfl ?_
              clear hH14
              go_simp
              go_wp2_with fail
              go_meet
              first | refine HFIN.out _ _ _ _ _ ?_ ?_ HS6.out | refine HFIN.out _ _ _ _ _ ?_ ?_ HS6.out.up1.tail
              · omega
              · exact tCells_new _ _ _
            exact AllReadyH.nil
          exact AllReadyH.nil
        exact AllReadyH.nil
      exact AllReadyH.nil
    exact AllReadyH.nil
  case rest =>
  obtain ⟨p6, q6, hcut⟩ := hcut
  obtain ⟨V, hV⟩ : ∃ V : World, V = wc := ⟨_, rfl⟩
  rw [← hV] at hcut ⊢
  have HS2 := Lib.hid hcut
  clear hcut hV HS HM0 HM01 HM10 ka0 ka1 ka01 ka10 b0 HFIN mixed SHM0 SHM01 SHM10 HT1 HD1 HONE
  obtain ⟨k, hk⟩ : ∃ k, k = (ta : RTP).length := ⟨_, rfl⟩
  have HYK : Hid (((ta ++ (⟨n, [], []⟩, .slice none 0 0, .slice none 0 0) :: []) : RTP)[k]? = some (⟨n, [], []⟩, .slice none 0 0, .slice none 0 0)) := tv_mid hk
  have HKA : Hid (k = a) := by have := HTA.out; show k = a; omega
  obtain ⟨g6, rfl, ⟨c0, c1, c2⟩, _⟩ := ref_cells HS2.out HYK.out
  have b0 := (ref_tab HS2.out).1
  have HK := Lib.hid hk
  clear hk
  obtain rfl := HKA.out
  have HFR := Lib.hid (rfree_any V n (v := .slice none 0 0) (.slice none 0 0) (l := []) (.inl ⟨rfl, rfl⟩) (by simp) h want)
  rw [show freeL [] h want = true from rfl] at HFR
  have HEN2 : Hid (∀ (V : World) (p4 : Option Addr) (q4 : Nat), Sep w V (rowRes 76 2 (.slice p4 (0 + 1) q4) (0 + 1) (wCells [] ++ (#[Value.int .i64 h, .int .i64 want] : Array Value).toList) :: openR b (some ⟨g6, 0, none⟩) (k + 1) q6 (ta ++ (⟨n, [], []⟩, .slice none 0 0, .slice none 0 0) :: []) L) →
      Sep w (V.setCell ⟨g6, k * 3 + 1, none⟩ (.slice p4 (0 + 1) q4)) (refRes b t' :: L)) := by
    intro V p4 q4 hv
    rw [← wCells_snoc] at hv
    have h1 := ref_setHas hv rfl (k := k) (by rw [← HK.out])
    refine ref_shut h1 HLT.out.symm ?_
    rw [HEND.out, List.map_append, List.map_cons]
    rfl
  have hkn : (k : Nat) < k + 1 := by omega
  go_upto_region 18 with fail
  go_wp2_with (go_at_call 33; refine HFR.out.mono ?_; rintro e w2 ⟨rfl, ho2⟩; have hs2 := HS2.out.only ho2; obtain ⟨_, e2, ⟨d0, d1, d2⟩, _⟩ := ref_cells hs2 HYK.out; cases e2; have HWO := Lib.hid (rwithout_any (l := []) hs2.up2 held_mem.1 (by simp) h); clear c0 c1 c2 ho2 hs2)
  have HWO2 : Hid (Calls Tryd.prog 34 #[.slice none 0 0, .int .i64 h] w2 fun e W' => ∃ p q, e = .returned (.slice p 0 q) ∧ Sep w W' (rowRes 76 2 (.slice p 0 q) 0 (wCells []) :: heldsRes (tHelds (ta ++ (⟨n, [], []⟩, .slice none 0 0, .slice none 0 0) :: [])) :: blkRes b (.cells #[.slice (some ⟨g6, 0, none⟩) (k + 1) q6] 28 (0, 0)) :: rowRes 71 3 (.slice (some ⟨g6, 0, none⟩) (k + 1) q6) (k + 1) (tCells (ta ++ (⟨n, [], []⟩, .slice none 0 0, .slice none 0 0) :: [])) :: L)) := HWO.out
  clear HWO
  go_upto_region 19 with fail
  go_wp2_with (first | (at_builtin; refine wpList_append_sep (w := w) (cs := #[.int .i64 h, .int .i64 want]) (e := 76) rfl (.tmp 132) (.tmp 136) 69 rfl ii _ 2 16 Tryd.underlying69 II.out rfl (by decide) _ _ _ rfl rfl rfl rfl (by simp [Value.oneCell']) HS3.out (by unfold maxLen; omega) (by omega) ?_; intro p4 q4 w4 hs4; obtain ⟨_, e4, ⟨_, d1, _⟩, ⟨_, f1, _⟩⟩ := ref_cells hs4.tail HYK.out; cases e4; have HS4 := Lib.hid (HEN2.out w4 p4 q4 hs4); clear hs4) | (go_at_call 34; refine HWO2.out.mono ?_; rintro e w3 ⟨p3, q3, rfl, hs3⟩; have HS3 := Lib.hid (open_perm hs3); clear hs3 d0 d1 d2))
  go_ret
  exact ⟨rfl, HS4.out⟩

set_option maxRecDepth 100000 in
set_option maxHeartbeats 40000000 in
theorem rtn_n {w W : World} {L : List Res} {b : Nat} {n : ByteArray} {h want : Int} {t' : Tab}
    (a1 : ¬ h < 1) (a2 : ¬ 1000 < h) (a3 : ¬ (64 : Int) < (n.size : Int)) (a4 : ¬ want < 1) (a5 : ¬ 2 < want)
    (HW : Hid (Calls Tryd.prog 19 #[.pointer (some ⟨b, 0, none⟩), .int .i64 h] W fun e W' => e = .returned (.tuple #[.string ⟨#[]⟩, .bool false]) ∧ W = W'))
    (HM : Hid (Calls Tryd.prog 21 #[.pointer (some ⟨b, 0, none⟩), .int .i64 h, .string n] W fun e W' => e = .returned (.int .i64 0) ∧ W = W'))
    (HF : Hid (Calls Tryd.prog 32 #[.pointer (some ⟨b, 0, none⟩), .string n] W fun e W' => e = .returned (.int .i64 (-1)) ∧ W = W'))
    (HS : Hid (Sep w W (openR b none 0 0 ([] ++ []) L))) (hlN : 0 < 256)
    (HEND : Hid (t' = (([] : RTP).map Prod.fst) ++ ⟨n, [(h, want)], []⟩ :: (([] : RTP).map Prod.fst))) (HLT : Hid (t'.length = 0 + 1)) :
    Calls Tryd.prog 14 #[.pointer (some ⟨b, 0, none⟩), .int .i64 h, .string n, .int .i64 want] W fun e W' => e = .returned (.int .i64 0) ∧ Sep w W' (refRes b t' :: L) := by
  obtain ⟨ie, IE⟩ := info_of Tryd.infoThing
  obtain ⟨ii, II⟩ := info_of Tryd.infoHeld
  have b0 := (ref_tab HS.out).1
  have hw0 : ¬ want ≤ 0 := by omega
  have hl6 : ¬ ((0 : Int) = 256) := by omega
  have mixed : Tryd.prog.follows .mixedOrders = true := by kernel_rfl
  have HFIN : Hid (∀ (V : World) (p6 : Option Addr) (q6 m : Nat) (xs : List Value), m = 0 + 1 → xs = tCells ([] ++ (⟨n, [], []⟩, .slice none 0 0, .slice none 0 0) :: []) → Sep w V (rowRes 71 3 (.slice p6 m q6) m xs :: openR b none 0 0 ([] ++ []) L) → ∃ p q, Sep w (V.setCell ⟨b, 0, none⟩ (.slice p6 m q6)) (openR b p (0 + 1) q ([] ++ (⟨n, [], []⟩, .slice none 0 0, .slice none 0 0) :: []) L)) := by
    intro V p6 q6 m xs hm hx hv
    subst hm
    exact ⟨_, _, ref_new (v := .slice none 0 0) hv hx⟩
  go_enter Tryd.func14, Tryd.ntmps14
  go_upto_block 0 with (first | (go_at_call 19; refine HW.out.mono ?_; rintro e w2 ⟨rfl, rfl⟩) | (go_at_call 21; refine HM.out.mono ?_; rintro e w2 ⟨rfl, rfl⟩) | (go_at_call 32; refine HF.out.mono ?_; rintro e w2 ⟨rfl, rfl⟩))
  go_cut [12] (fun s12 wx => s12 = .int .i64 0 ∧ W = wx)
  case first =>
    go_wp2_with fail
    go_loopw [12] (fun s12 wr => s12 = .int .i64 0 ∧ W = wr) (fun s12 _ => 0)
    case atStart => exact ⟨rfl, rfl⟩
    case round =>
      obtain ⟨rfl, rfl⟩ := hrel
      go_wp2_with fail
      go_meet
      exact ⟨rfl, rfl⟩
  case rest =>
  obtain ⟨rfl, rfl⟩ := hcut
  clear HW HM HF
  have HM0 : Hid (Sep w (W.alloc (.cells #[] 71)).drew (rowRes 71 3 (.slice (some ⟨W.heap.size, 0, none⟩) 0 0) (0) ([]) :: openR b none 0 0 ([] ++ []) L)) := (HS.out.row_made 71 3).drew
  have HM01 : Hid (Sep w ((W.alloc (.cells #[] 71)).alloc (.cells #[.string n, .slice none 0 0, .slice none 0 0] 71)).drew (rowRes 71 3 (.slice (some ⟨W.heap.size, 0, none⟩) 0 0) (0) ([]) :: blkRes (W.heap.size + 1) (.cells #[.string n, .slice none 0 0, .slice none 0 0] 71 (0, 0)) :: openR b none 0 0 ([] ++ []) L)) := by
    have hz := ((HS.out.row_made 71 3).alloc #[.string n, .slice none 0 0, .slice none 0 0] 71).up1.drew
    rw [show (W.alloc (.cells #[] 71)).heap.size = W.heap.size + 1 from by simp] at hz
    exact hz
  have HM10 : Hid (Sep w ((W.alloc (.cells #[.string n, .slice none 0 0, .slice none 0 0] 71)).alloc (.cells #[] 71)).drew (rowRes 71 3 (.slice (some ⟨W.heap.size + 1, 0, none⟩) 0 0) (0) ([]) :: blkRes W.heap.size (.cells #[.string n, .slice none 0 0, .slice none 0 0] 71 (0, 0)) :: openR b none 0 0 ([] ++ []) L)) := by
    have hz := ((HS.out.alloc #[.string n, .slice none 0 0, .slice none 0 0] 71).row_made 71 3).drew
    rw [show (W.alloc (.cells #[.string n, .slice none 0 0, .slice none 0 0] 71)).heap.size = W.heap.size + 1 from by simp] at hz
    exact hz
  have ka0 : (W.alloc (.cells #[] 71)).cell? ⟨b, 0, none⟩ = some (.slice none 0 0) := Lib.cell?_alloc_some _ b0
  have ka1 : (W.alloc (.cells #[.string n, .slice none 0 0, .slice none 0 0] 71)).cell? ⟨b, 0, none⟩ = some (.slice none 0 0) := Lib.cell?_alloc_some _ b0
  have ka01 : ((W.alloc (.cells #[] 71)).alloc (.cells #[.string n, .slice none 0 0, .slice none 0 0] 71)).cell? ⟨b, 0, none⟩ = some (.slice none 0 0) := Lib.cell?_alloc_some _ ka0
  have ka10 : ((W.alloc (.cells #[.string n, .slice none 0 0, .slice none 0 0] 71)).alloc (.cells #[] 71)).cell? ⟨b, 0, none⟩ = some (.slice none 0 0) := Lib.cell?_alloc_some _ ka1
  go_upto_region 16 with fail
  go_cut [] (fun wx => ∃ p q, Sep w wx (openR b p (0 + 1) q ([] ++ (⟨n, [], []⟩, .slice none 0 0, .slice none 0 0) :: []) L))
  case first =>
    go_wp2_with fail
    refine wp_region_last (S := (fun w' => w'.cell? ⟨b, 0, none⟩ = some (.slice none 0 0))) (by kernel_rfl) 22 _ rfl rfl rfl (by kernel_rfl) [21, 20, 19, 18, 17, 16, 15, 14, 13, 12, 11, 10, 9, 8, 7, 6, 5, 4, 3, 2, 1, 0] (by kernel_rfl) (by kernel_rfl) ?_ (fun hHeld => ?_)
    · (try dsimp only); (first | go_keep | assumption)
    simp only [lull, List.setIfInBounds_toArray, List.set_cons_succ, List.set_cons_zero]
    refine wpAnyH_take (i := 0) (v := ?_) rfl (by kernel_rfl) (by kernel_rfl) (by kernel_rfl) (fun _ _ _ h => h) (Or.inl ⟨by rfl, ?_⟩) (by assumption) ?_
    rotate_left
    · (intro w hSw; (try dsimp only at hSw); go_simp; try with_reducible rfl)
    (try simp only [Act.put, List.setIfInBounds_toArray, List.set_cons_zero, List.set_cons_succ])
    refine wpAnyH_take (i := 2) (v := ?_) rfl (by kernel_rfl) (by kernel_rfl) (by kernel_rfl) (fun _ _ _ h => h) (Or.inl ⟨by rfl, ?_⟩) (by assumption) ?_
    rotate_left
    · (intro w hSw; (try dsimp only at hSw); go_simp; try with_reducible rfl)
    (try simp only [Act.put, List.setIfInBounds_toArray, List.set_cons_zero, List.set_cons_succ])
    refine wpAnyH_take (i := 3) (v := ?_) rfl (by kernel_rfl) (by kernel_rfl) (by kernel_rfl) (fun _ _ _ h => h) (Or.inl ⟨by rfl, ?_⟩) (by assumption) ?_
    rotate_left
    · (intro w hSw; (try dsimp only at hSw); go_simp; try with_reducible rfl)
    (try simp only [Act.put, List.setIfInBounds_toArray, List.set_cons_zero, List.set_cons_succ])
    refine wpAnyH_take (i := 4) (v := ?_) rfl (by kernel_rfl) (by kernel_rfl) (by kernel_rfl) (fun _ _ _ h => h) (Or.inl ⟨by rfl, ?_⟩) (by assumption) ?_
    rotate_left
    · (intro w hSw; (try dsimp only at hSw); go_simp; try with_reducible rfl)
    (try simp only [Act.put, List.setIfInBounds_toArray, List.set_cons_zero, List.set_cons_succ])
    refine wpAnyH_take (i := 5) (v := ?_) rfl (by kernel_rfl) (by kernel_rfl) (by kernel_rfl) (fun _ _ _ h => h) (Or.inl ⟨by rfl, ?_⟩) (by assumption) ?_
    rotate_left
    · (intro w hSw; (try dsimp only at hSw); go_simp; try with_reducible rfl)
    (try simp only [Act.put, List.setIfInBounds_toArray, List.set_cons_zero, List.set_cons_succ])
    refine wpAnyH_take (i := 6) (v := ?_) rfl (by kernel_rfl) (by kernel_rfl) (by kernel_rfl) (fun _ _ _ h => h) (Or.inl ⟨by rfl, ?_⟩) (by assumption) ?_
    rotate_left
    · (intro w hSw; (try dsimp only at hSw); go_simp; try with_reducible rfl)
    (try simp only [Act.put, List.setIfInBounds_toArray, List.set_cons_zero, List.set_cons_succ])
    refine wpAnyH_take (i := 7) (v := ?_) rfl (by kernel_rfl) (by kernel_rfl) (by kernel_rfl) (fun _ _ _ h => h) (Or.inl ⟨by rfl, ?_⟩) (by assumption) ?_
    rotate_left
    · (intro w hSw; (try dsimp only at hSw); go_simp; try with_reducible rfl)
    (try simp only [Act.put, List.setIfInBounds_toArray, List.set_cons_zero, List.set_cons_succ])
    refine wpAnyH_take (i := 9) (v := ?_) rfl (by kernel_rfl) (by kernel_rfl) (by kernel_rfl) (fun _ _ _ h => h) (Or.inl ⟨by rfl, ?_⟩) (by assumption) ?_
    rotate_left
    · (intro w hSw; (try dsimp only at hSw); go_simp; try with_reducible rfl)
    (try simp only [Act.put, List.setIfInBounds_toArray, List.set_cons_zero, List.set_cons_succ])
    refine wpAnyH_take (i := 10) (v := ?_) rfl (by kernel_rfl) (by kernel_rfl) (by kernel_rfl) (fun _ _ _ h => h) (Or.inl ⟨by rfl, ?_⟩) (by assumption) ?_
    rotate_left
    · (intro w hSw; (try dsimp only at hSw); go_simp; try with_reducible rfl)
    (try simp only [Act.put, List.setIfInBounds_toArray, List.set_cons_zero, List.set_cons_succ])
    refine wpAnyH_take (i := 13) (v := ?_) rfl (by kernel_rfl) (by kernel_rfl) (by kernel_rfl) (fun _ _ _ h => h) (Or.inl ⟨by rfl, ?_⟩) (by assumption) ?_
    rotate_left
    · (intro w hSw; (try dsimp only at hSw); go_simp; try with_reducible rfl)
    (try simp only [Act.put, List.setIfInBounds_toArray, List.set_cons_zero, List.set_cons_succ])
    refine wpAnyH_take (i := 14) (v := ?_) rfl (by kernel_rfl) (by kernel_rfl) (by kernel_rfl) (fun _ _ _ h => h) (Or.inl ⟨by rfl, ?_⟩) (by assumption) ?_
    rotate_left
    · (intro w hSw; (try dsimp only at hSw); go_simp; try with_reducible rfl)
    (try simp only [Act.put, List.setIfInBounds_toArray, List.set_cons_zero, List.set_cons_succ])
    refine wpAnyH_take (i := 15) (v := ?_) rfl (by kernel_rfl) (by kernel_rfl) (by kernel_rfl) (fun _ _ _ h => h) (Or.inl ⟨by rfl, ?_⟩) (by assumption) ?_
    rotate_left
    · (intro w hSw; (try dsimp only at hSw); go_simp; try with_reducible rfl)
    (try simp only [Act.put, List.setIfInBounds_toArray, List.set_cons_zero, List.set_cons_succ])
    refine wpAnyH_take (i := 16) (v := ?_) rfl (by kernel_rfl) (by kernel_rfl) (by kernel_rfl) (fun _ _ _ h => h) (Or.inl ⟨by rfl, ?_⟩) (by assumption) ?_
    rotate_left
    · (intro w hSw; (try dsimp only at hSw); go_simp; try with_reducible rfl)
    (try simp only [Act.put, List.setIfInBounds_toArray, List.set_cons_zero, List.set_cons_succ])
    refine wpAnyH_take (i := 17) (v := ?_) rfl (by kernel_rfl) (by kernel_rfl) (by kernel_rfl) (fun _ _ _ h => h) (Or.inl ⟨by rfl, ?_⟩) (by assumption) ?_
    rotate_left
    · (intro w hSw; (try dsimp only at hSw); go_simp; try with_reducible rfl)
    (try simp only [Act.put, List.setIfInBounds_toArray, List.set_cons_zero, List.set_cons_succ])
    refine wpAnyH_take (i := 18) (v := ?_) rfl (by kernel_rfl) (by kernel_rfl) (by kernel_rfl) (fun _ _ _ h => h) (Or.inl ⟨by rfl, ?_⟩) (by assumption) ?_
    rotate_left
    · (intro w hSw; (try dsimp only at hSw); go_simp; try with_reducible rfl)
    (try simp only [Act.put, List.setIfInBounds_toArray, List.set_cons_zero, List.set_cons_succ])
    refine wpAnyH_ready (rs := [1, 11]) (by kernel_rfl) (by simp) ?_
    refine AllReadyH.cons rfl (fun K hK => ?_) ?_
    · go_simp
      refine hK.out _ _ ?_ (fun hH1 => ?_)
      · (try dsimp only); (first | go_keep | assumption)
      clear hK K hHeld
      (try simp only [Act.put, List.setIfInBounds_toArray, List.set_cons_zero, List.set_cons_succ])
      refine wpAnyH_ready (rs := [8, 11]) (by kernel_rfl) (by simp) ?_
      refine AllReadyH.cons rfl (fun K hK => ?_) ?_
      · first | (refine step_append_srcR (w := w) (e := 71) rfl (.tmp 81) (.tmp 87) 26 rfl ie _ 3 64 Tryd.underlying26 IE.out rfl (by decide) (.slice (some ⟨W.heap.size, 0, none⟩) 0 0) 0 [] rfl none 0 0 (tCells []) rfl rfl no_tcells (fun u hu => by simp [tCells] at hu) HM0.out (by unfold maxLen; omega) (by omega) ?_; intro p4 q4 w4 hs4; rw [Nat.zero_add, List.nil_append] at hs4; rw [Nat.zero_add]; have HS4 := Lib.hid hs4; clear hs4; have kn4 := (ref_tab HS4.out.tail).1; have kn5 : (w4.alloc (.cells #[.string n, .slice none 0 0, .slice none 0 0] 71)).cell? ⟨b, 0, none⟩ = some (.slice none 0 0) := Lib.cell?_alloc_some _ kn4) | (refine step_append_srcR (w := w) (e := 71) rfl (.tmp 81) (.tmp 87) 26 rfl ie _ 3 64 Tryd.underlying26 IE.out rfl (by decide) (.slice (some ⟨W.heap.size, 0, none⟩) 0 0) 0 [] rfl none 0 0 (tCells []) rfl rfl no_tcells (fun u hu => by simp [tCells] at hu) HM01.out (by unfold maxLen; omega) (by omega) ?_; intro p4 q4 w4 hs4; rw [Nat.zero_add, List.nil_append] at hs4; rw [Nat.zero_add]; have HS4 := Lib.hid hs4; clear hs4; have kn4 := (ref_tab HS4.out.tail.tail).1) | (refine step_append_srcR (w := w) (e := 71) rfl (.tmp 81) (.tmp 87) 26 rfl ie _ 3 64 Tryd.underlying26 IE.out rfl (by decide) (.slice (some ⟨W.heap.size + 1, 0, none⟩) 0 0) 0 [] rfl none 0 0 (tCells []) rfl rfl no_tcells (fun u hu => by simp [tCells] at hu) HM10.out (by unfold maxLen; omega) (by omega) ?_; intro p4 q4 w4 hs4; rw [Nat.zero_add, List.nil_append] at hs4; rw [Nat.zero_add]; have HS4 := Lib.hid hs4; clear hs4; have kn4 := (ref_tab HS4.out.tail.tail).1)
        refine hK.out _ _ ?_ (fun hH2 => ?_)
        · (try dsimp only); (first | go_keep | assumption)
        clear hK K hH1
        (try simp only [Act.put, List.setIfInBounds_toArray, List.set_cons_zero, List.set_cons_succ])
        refine wpAnyH_ready (rs := [11]) (by kernel_rfl) (by simp) ?_
        refine AllReadyH.cons rfl (fun K hK => ?_) ?_
        · go_simp
          refine hK.out _ _ ?_ (fun hH3 => ?_)
          · (try dsimp only); (first | go_keep | assumption)
          clear hK K hH2
          (try simp only [Act.put, List.setIfInBounds_toArray, List.set_cons_zero, List.set_cons_succ])
          refine wpAnyH_ready (rs := [12]) (by kernel_rfl) (by simp) ?_
          refine AllReadyH.cons rfl (fun K hK => ?_) ?_
          · first | (refine step_append_sep (w := w) (e := 71) (B := (W.heap.size + 1)) rfl (.tmp 88) (.tmp 91) 26 rfl ie _ 3 64 Tryd.underlying26 IE.out rfl (by decide) (.slice p4 0 q4) 0 (tCells []) rfl rfl (HS4.out.up1.blk) rfl (thing_one n) HS4.out (by unfold maxLen; omega) (by omega) ?_; intro p5 q5 w5 hs5; have HS5 := Lib.hid hs5; clear hs5; have kn6 := (ref_tab HS5.out.tail.tail).1) | (refine step_append_sep (w := w) (e := 71) (B := W.heap.size) rfl (.tmp 88) (.tmp 91) 26 rfl ie _ 3 64 Tryd.underlying26 IE.out rfl (by decide) (.slice p4 0 q4) 0 (tCells []) rfl rfl (HS4.out.up1.blk) rfl (thing_one n) HS4.out (by unfold maxLen; omega) (by omega) ?_; intro p5 q5 w5 hs5; have HS5 := Lib.hid hs5; clear hs5; have kn6 := (ref_tab HS5.out.tail.tail).1) | (refine step_append_sep (w := w) (e := 71) (B := w4.heap.size) rfl (.tmp 88) (.tmp 91) 26 rfl ie _ 3 64 Tryd.underlying26 IE.out rfl (by decide) (.slice p4 0 q4) 0 (tCells []) rfl rfl (heap_alloc_self) rfl (thing_one n) (HS4.out.forget (.cells #[.string n, .slice none 0 0, .slice none 0 0] 71)) (by unfold maxLen; omega) (by omega) ?_; intro p5 q5 w5 hs5; have HS5 := Lib.hid hs5; clear hs5; have kn6 := (ref_tab HS5.out.tail).1)
            refine hK.out _ _ ?_ (fun hH4 => ?_)
            · (try dsimp only); (first | go_keep | assumption)
            clear hK K hH3
            (try simp only [Act.put, List.setIfInBounds_toArray, List.set_cons_zero, List.set_cons_succ])
            refine wpAnyH_ready (rs := [19]) (by kernel_rfl) (by simp) ?_
            refine AllReadyH.cons rfl (fun K hK => ?_) ?_
            · (refine step_append_srcR (w := w) (e := 71) rfl (.tmp 92) (.tmp 98) 26 rfl ie _ 3 64 Tryd.underlying26 IE.out rfl (by decide) (.slice p5 (0 + 1) q5) (0 + 1) (tCells [] ++ (#[.string n, .slice none 0 0, .slice none 0 0] : Array Value).toList) rfl none 0 0 (tCells []) rfl rfl no_tcells (fun u hu => by simp [tCells] at hu) HS5.out (by unfold maxLen; omega) (by omega) ?_; intro p6 q6 w6 hs6; have HS6 := Lib.hid hs6; clear hs6; have kn7 : w6.cell? ⟨b, 0, none⟩ = some (.slice none 0 0) := (by first | exact (ref_tab HS6.out.tail).1 | exact (ref_tab HS6.out.tail.tail).1); have fn7 : w6.frozen? ⟨b, 0, none⟩ = false := (by first | exact (ref_tab HS6.out.tail).2 | exact (ref_tab HS6.out.tail.tail).2))
              refine hK.out _ _ ?_ (fun hH5 => ?_)
              · (try dsimp only); (first | go_keep | assumption)
              clear hK K hH4
              (try simp only [Act.put, List.setIfInBounds_toArray, List.set_cons_zero, List.set_cons_succ])
              refine wpAnyH_take (i := 20) (v := ?_) rfl (by kernel_rfl) (by kernel_rfl) (by kernel_rfl) (fun _ _ _ h => h) (Or.inl ⟨by rfl, ?_⟩) (by assumption) ?_
              rotate_left
              · (intro w hSw; (try dsimp only at hSw); go_simp; try with_reducible rfl)
              (try simp only [Act.put, List.setIfInBounds_toArray, List.set_cons_zero, List.set_cons_succ])
              refine wpAnyH_take (i := 21) (v := ?_) rfl (by kernel_rfl) (by kernel_rfl) (by kernel_rfl) (fun _ _ _ h => h) (Or.inl ⟨by rfl, ?_⟩) (by assumption) ?_
              rotate_left
              · (intro w hSw; (try dsimp only at hSw); go_simp; try with_reducible rfl)
              (try simp only [Act.put, List.setIfInBounds_toArray, List.set_cons_zero, List.set_cons_succ])
              refine wpAnyH_take (i := 22) (v := ?_) rfl (by kernel_rfl) (by kernel_rfl) (by kernel_rfl) (fun _ _ _ h => h) (Or.inl ⟨by rfl, ?_⟩) (by assumption) ?_
              rotate_left
              · (intro w hSw; (try dsimp only at hSw); go_simp; try with_reducible rfl)
              (try simp only [Act.put, List.setIfInBounds_toArray, List.set_cons_zero, List.set_cons_succ])
              refine wpAnyH_done (by kernel_rfl) ?_ _
              refine tail_run rfl rfl ?_
              clear hH5
              go_simp
              go_wp2_with fail
              go_meet
              first | refine HFIN.out _ _ _ _ _ ?_ ?_ HS6.out | refine HFIN.out _ _ _ _ _ ?_ ?_ HS6.out.up1.tail
              · omega
              · exact tCells_new _ _ _
            exact AllReadyH.nil
          exact AllReadyH.nil
        exact AllReadyH.nil
      refine AllReadyH.cons rfl (fun K hK => ?_) ?_
      · go_simp
        refine hK.out _ _ ?_ (fun hH6 => ?_)
        · (try dsimp only); (first | go_keep | assumption)
        clear hK K hH1
        (try simp only [Act.put, List.setIfInBounds_toArray, List.set_cons_zero, List.set_cons_succ])
        refine wpAnyH_ready (rs := [8]) (by kernel_rfl) (by simp) ?_
        refine AllReadyH.cons rfl (fun K hK => ?_) ?_
        · first | (refine step_append_srcR (w := w) (e := 71) rfl (.tmp 81) (.tmp 87) 26 rfl ie _ 3 64 Tryd.underlying26 IE.out rfl (by decide) (.slice (some ⟨W.heap.size, 0, none⟩) 0 0) 0 [] rfl none 0 0 (tCells []) rfl rfl no_tcells (fun u hu => by simp [tCells] at hu) HM0.out (by unfold maxLen; omega) (by omega) ?_; intro p4 q4 w4 hs4; rw [Nat.zero_add, List.nil_append] at hs4; rw [Nat.zero_add]; have HS4 := Lib.hid hs4; clear hs4; have kn4 := (ref_tab HS4.out.tail).1; have kn5 : (w4.alloc (.cells #[.string n, .slice none 0 0, .slice none 0 0] 71)).cell? ⟨b, 0, none⟩ = some (.slice none 0 0) := Lib.cell?_alloc_some _ kn4) | (refine step_append_srcR (w := w) (e := 71) rfl (.tmp 81) (.tmp 87) 26 rfl ie _ 3 64 Tryd.underlying26 IE.out rfl (by decide) (.slice (some ⟨W.heap.size, 0, none⟩) 0 0) 0 [] rfl none 0 0 (tCells []) rfl rfl no_tcells (fun u hu => by simp [tCells] at hu) HM01.out (by unfold maxLen; omega) (by omega) ?_; intro p4 q4 w4 hs4; rw [Nat.zero_add, List.nil_append] at hs4; rw [Nat.zero_add]; have HS4 := Lib.hid hs4; clear hs4; have kn4 := (ref_tab HS4.out.tail.tail).1) | (refine step_append_srcR (w := w) (e := 71) rfl (.tmp 81) (.tmp 87) 26 rfl ie _ 3 64 Tryd.underlying26 IE.out rfl (by decide) (.slice (some ⟨W.heap.size + 1, 0, none⟩) 0 0) 0 [] rfl none 0 0 (tCells []) rfl rfl no_tcells (fun u hu => by simp [tCells] at hu) HM10.out (by unfold maxLen; omega) (by omega) ?_; intro p4 q4 w4 hs4; rw [Nat.zero_add, List.nil_append] at hs4; rw [Nat.zero_add]; have HS4 := Lib.hid hs4; clear hs4; have kn4 := (ref_tab HS4.out.tail.tail).1)
          refine hK.out _ _ ?_ (fun hH7 => ?_)
          · (try dsimp only); (first | go_keep | assumption)
          clear hK K hH6
          (try simp only [Act.put, List.setIfInBounds_toArray, List.set_cons_zero, List.set_cons_succ])
          refine wpAnyH_ready (rs := [12]) (by kernel_rfl) (by simp) ?_
          refine AllReadyH.cons rfl (fun K hK => ?_) ?_
          · first | (refine step_append_sep (w := w) (e := 71) (B := (W.heap.size + 1)) rfl (.tmp 88) (.tmp 91) 26 rfl ie _ 3 64 Tryd.underlying26 IE.out rfl (by decide) (.slice p4 0 q4) 0 (tCells []) rfl rfl (HS4.out.up1.blk) rfl (thing_one n) HS4.out (by unfold maxLen; omega) (by omega) ?_; intro p5 q5 w5 hs5; have HS5 := Lib.hid hs5; clear hs5; have kn6 := (ref_tab HS5.out.tail.tail).1) | (refine step_append_sep (w := w) (e := 71) (B := W.heap.size) rfl (.tmp 88) (.tmp 91) 26 rfl ie _ 3 64 Tryd.underlying26 IE.out rfl (by decide) (.slice p4 0 q4) 0 (tCells []) rfl rfl (HS4.out.up1.blk) rfl (thing_one n) HS4.out (by unfold maxLen; omega) (by omega) ?_; intro p5 q5 w5 hs5; have HS5 := Lib.hid hs5; clear hs5; have kn6 := (ref_tab HS5.out.tail.tail).1) | (refine step_append_sep (w := w) (e := 71) (B := w4.heap.size) rfl (.tmp 88) (.tmp 91) 26 rfl ie _ 3 64 Tryd.underlying26 IE.out rfl (by decide) (.slice p4 0 q4) 0 (tCells []) rfl rfl (heap_alloc_self) rfl (thing_one n) (HS4.out.forget (.cells #[.string n, .slice none 0 0, .slice none 0 0] 71)) (by unfold maxLen; omega) (by omega) ?_; intro p5 q5 w5 hs5; have HS5 := Lib.hid hs5; clear hs5; have kn6 := (ref_tab HS5.out.tail).1)
            refine hK.out _ _ ?_ (fun hH8 => ?_)
            · (try dsimp only); (first | go_keep | assumption)
            clear hK K hH7
            (try simp only [Act.put, List.setIfInBounds_toArray, List.set_cons_zero, List.set_cons_succ])
            refine wpAnyH_ready (rs := [19]) (by kernel_rfl) (by simp) ?_
            refine AllReadyH.cons rfl (fun K hK => ?_) ?_
            · (refine step_append_srcR (w := w) (e := 71) rfl (.tmp 92) (.tmp 98) 26 rfl ie _ 3 64 Tryd.underlying26 IE.out rfl (by decide) (.slice p5 (0 + 1) q5) (0 + 1) (tCells [] ++ (#[.string n, .slice none 0 0, .slice none 0 0] : Array Value).toList) rfl none 0 0 (tCells []) rfl rfl no_tcells (fun u hu => by simp [tCells] at hu) HS5.out (by unfold maxLen; omega) (by omega) ?_; intro p6 q6 w6 hs6; have HS6 := Lib.hid hs6; clear hs6; have kn7 : w6.cell? ⟨b, 0, none⟩ = some (.slice none 0 0) := (by first | exact (ref_tab HS6.out.tail).1 | exact (ref_tab HS6.out.tail.tail).1); have fn7 : w6.frozen? ⟨b, 0, none⟩ = false := (by first | exact (ref_tab HS6.out.tail).2 | exact (ref_tab HS6.out.tail.tail).2))
              refine hK.out _ _ ?_ (fun hH9 => ?_)
              · (try dsimp only); (first | go_keep | assumption)
              clear hK K hH8
              (try simp only [Act.put, List.setIfInBounds_toArray, List.set_cons_zero, List.set_cons_succ])
              refine wpAnyH_take (i := 20) (v := ?_) rfl (by kernel_rfl) (by kernel_rfl) (by kernel_rfl) (fun _ _ _ h => h) (Or.inl ⟨by rfl, ?_⟩) (by assumption) ?_
              rotate_left
              · (intro w hSw; (try dsimp only at hSw); go_simp; try with_reducible rfl)
              (try simp only [Act.put, List.setIfInBounds_toArray, List.set_cons_zero, List.set_cons_succ])
              refine wpAnyH_take (i := 21) (v := ?_) rfl (by kernel_rfl) (by kernel_rfl) (by kernel_rfl) (fun _ _ _ h => h) (Or.inl ⟨by rfl, ?_⟩) (by assumption) ?_
              rotate_left
              · (intro w hSw; (try dsimp only at hSw); go_simp; try with_reducible rfl)
              (try simp only [Act.put, List.setIfInBounds_toArray, List.set_cons_zero, List.set_cons_succ])
              refine wpAnyH_take (i := 22) (v := ?_) rfl (by kernel_rfl) (by kernel_rfl) (by kernel_rfl) (fun _ _ _ h => h) (Or.inl ⟨by rfl, ?_⟩) (by assumption) ?_
              rotate_left
              · (intro w hSw; (try dsimp only at hSw); go_simp; try with_reducible rfl)
              (try simp only [Act.put, List.setIfInBounds_toArray, List.set_cons_zero, List.set_cons_succ])
              refine wpAnyH_done (by kernel_rfl) ?_ _
              refine tail_run rfl rfl ?_
              clear hH9
              go_simp
              go_wp2_with fail
              go_meet
              first | refine HFIN.out _ _ _ _ _ ?_ ?_ HS6.out | refine HFIN.out _ _ _ _ _ ?_ ?_ HS6.out.up1.tail
              · omega
              · exact tCells_new _ _ _
            exact AllReadyH.nil
          exact AllReadyH.nil
        exact AllReadyH.nil
      exact AllReadyH.nil
    refine AllReadyH.cons rfl (fun K hK => ?_) ?_
    · go_simp
      refine hK.out _ _ ?_ (fun hH10 => ?_)
      · (try dsimp only); (first | go_keep | assumption)
      clear hK K hHeld
      (try simp only [Act.put, List.setIfInBounds_toArray, List.set_cons_zero, List.set_cons_succ])
      refine wpAnyH_ready (rs := [1]) (by kernel_rfl) (by simp) ?_
      refine AllReadyH.cons rfl (fun K hK => ?_) ?_
      · go_simp
        refine hK.out _ _ ?_ (fun hH11 => ?_)
        · (try dsimp only); (first | go_keep | assumption)
        clear hK K hH10
        (try simp only [Act.put, List.setIfInBounds_toArray, List.set_cons_zero, List.set_cons_succ])
        refine wpAnyH_ready (rs := [8]) (by kernel_rfl) (by simp) ?_
        refine AllReadyH.cons rfl (fun K hK => ?_) ?_
        · first | (refine step_append_srcR (w := w) (e := 71) rfl (.tmp 81) (.tmp 87) 26 rfl ie _ 3 64 Tryd.underlying26 IE.out rfl (by decide) (.slice (some ⟨W.heap.size, 0, none⟩) 0 0) 0 [] rfl none 0 0 (tCells []) rfl rfl no_tcells (fun u hu => by simp [tCells] at hu) HM0.out (by unfold maxLen; omega) (by omega) ?_; intro p4 q4 w4 hs4; rw [Nat.zero_add, List.nil_append] at hs4; rw [Nat.zero_add]; have HS4 := Lib.hid hs4; clear hs4; have kn4 := (ref_tab HS4.out.tail).1; have kn5 : (w4.alloc (.cells #[.string n, .slice none 0 0, .slice none 0 0] 71)).cell? ⟨b, 0, none⟩ = some (.slice none 0 0) := Lib.cell?_alloc_some _ kn4) | (refine step_append_srcR (w := w) (e := 71) rfl (.tmp 81) (.tmp 87) 26 rfl ie _ 3 64 Tryd.underlying26 IE.out rfl (by decide) (.slice (some ⟨W.heap.size, 0, none⟩) 0 0) 0 [] rfl none 0 0 (tCells []) rfl rfl no_tcells (fun u hu => by simp [tCells] at hu) HM01.out (by unfold maxLen; omega) (by omega) ?_; intro p4 q4 w4 hs4; rw [Nat.zero_add, List.nil_append] at hs4; rw [Nat.zero_add]; have HS4 := Lib.hid hs4; clear hs4; have kn4 := (ref_tab HS4.out.tail.tail).1) | (refine step_append_srcR (w := w) (e := 71) rfl (.tmp 81) (.tmp 87) 26 rfl ie _ 3 64 Tryd.underlying26 IE.out rfl (by decide) (.slice (some ⟨W.heap.size + 1, 0, none⟩) 0 0) 0 [] rfl none 0 0 (tCells []) rfl rfl no_tcells (fun u hu => by simp [tCells] at hu) HM10.out (by unfold maxLen; omega) (by omega) ?_; intro p4 q4 w4 hs4; rw [Nat.zero_add, List.nil_append] at hs4; rw [Nat.zero_add]; have HS4 := Lib.hid hs4; clear hs4; have kn4 := (ref_tab HS4.out.tail.tail).1)
          refine hK.out _ _ ?_ (fun hH12 => ?_)
          · (try dsimp only); (first | go_keep | assumption)
          clear hK K hH11
          (try simp only [Act.put, List.setIfInBounds_toArray, List.set_cons_zero, List.set_cons_succ])
          refine wpAnyH_ready (rs := [12]) (by kernel_rfl) (by simp) ?_
          refine AllReadyH.cons rfl (fun K hK => ?_) ?_
          · first | (refine step_append_sep (w := w) (e := 71) (B := (W.heap.size + 1)) rfl (.tmp 88) (.tmp 91) 26 rfl ie _ 3 64 Tryd.underlying26 IE.out rfl (by decide) (.slice p4 0 q4) 0 (tCells []) rfl rfl (HS4.out.up1.blk) rfl (thing_one n) HS4.out (by unfold maxLen; omega) (by omega) ?_; intro p5 q5 w5 hs5; have HS5 := Lib.hid hs5; clear hs5; have kn6 := (ref_tab HS5.out.tail.tail).1) | (refine step_append_sep (w := w) (e := 71) (B := W.heap.size) rfl (.tmp 88) (.tmp 91) 26 rfl ie _ 3 64 Tryd.underlying26 IE.out rfl (by decide) (.slice p4 0 q4) 0 (tCells []) rfl rfl (HS4.out.up1.blk) rfl (thing_one n) HS4.out (by unfold maxLen; omega) (by omega) ?_; intro p5 q5 w5 hs5; have HS5 := Lib.hid hs5; clear hs5; have kn6 := (ref_tab HS5.out.tail.tail).1) | (refine step_append_sep (w := w) (e := 71) (B := w4.heap.size) rfl (.tmp 88) (.tmp 91) 26 rfl ie _ 3 64 Tryd.underlying26 IE.out rfl (by decide) (.slice p4 0 q4) 0 (tCells []) rfl rfl (heap_alloc_self) rfl (thing_one n) (HS4.out.forget (.cells #[.string n, .slice none 0 0, .slice none 0 0] 71)) (by unfold maxLen; omega) (by omega) ?_; intro p5 q5 w5 hs5; have HS5 := Lib.hid hs5; clear hs5; have kn6 := (ref_tab HS5.out.tail).1)
            refine hK.out _ _ ?_ (fun hH13 => ?_)
            · (try dsimp only); (first | go_keep | assumption)
            clear hK K hH12
            (try simp only [Act.put, List.setIfInBounds_toArray, List.set_cons_zero, List.set_cons_succ])
            refine wpAnyH_ready (rs := [19]) (by kernel_rfl) (by simp) ?_
            refine AllReadyH.cons rfl (fun K hK => ?_) ?_
            · (refine step_append_srcR (w := w) (e := 71) rfl (.tmp 92) (.tmp 98) 26 rfl ie _ 3 64 Tryd.underlying26 IE.out rfl (by decide) (.slice p5 (0 + 1) q5) (0 + 1) (tCells [] ++ (#[.string n, .slice none 0 0, .slice none 0 0] : Array Value).toList) rfl none 0 0 (tCells []) rfl rfl no_tcells (fun u hu => by simp [tCells] at hu) HS5.out (by unfold maxLen; omega) (by omega) ?_; intro p6 q6 w6 hs6; have HS6 := Lib.hid hs6; clear hs6; have kn7 : w6.cell? ⟨b, 0, none⟩ = some (.slice none 0 0) := (by first | exact (ref_tab HS6.out.tail).1 | exact (ref_tab HS6.out.tail.tail).1); have fn7 : w6.frozen? ⟨b, 0, none⟩ = false := (by first | exact (ref_tab HS6.out.tail).2 | exact (ref_tab HS6.out.tail.tail).2))
              refine hK.out _ _ ?_ (fun hH14 => ?_)
              · (try dsimp only); (first | go_keep | assumption)
              clear hK K hH13
              (try simp only [Act.put, List.setIfInBounds_toArray, List.set_cons_zero, List.set_cons_succ])
              refine wpAnyH_take (i := 20) (v := ?_) rfl (by kernel_rfl) (by kernel_rfl) (by kernel_rfl) (fun _ _ _ h => h) (Or.inl ⟨by rfl, ?_⟩) (by assumption) ?_
              rotate_left
              · (intro w hSw; (try dsimp only at hSw); go_simp; try with_reducible rfl)
              (try simp only [Act.put, List.setIfInBounds_toArray, List.set_cons_zero, List.set_cons_succ])
              refine wpAnyH_take (i := 21) (v := ?_) rfl (by kernel_rfl) (by kernel_rfl) (by kernel_rfl) (fun _ _ _ h => h) (Or.inl ⟨by rfl, ?_⟩) (by assumption) ?_
              rotate_left
              · (intro w hSw; (try dsimp only at hSw); go_simp; try with_reducible rfl)
              (try simp only [Act.put, List.setIfInBounds_toArray, List.set_cons_zero, List.set_cons_succ])
              refine wpAnyH_take (i := 22) (v := ?_) rfl (by kernel_rfl) (by kernel_rfl) (by kernel_rfl) (fun _ _ _ h => h) (Or.inl ⟨by rfl, ?_⟩) (by assumption) ?_
              rotate_left
              · (intro w hSw; (try dsimp only at hSw); go_simp; try with_reducible rfl)
              (try simp only [Act.put, List.setIfInBounds_toArray, List.set_cons_zero, List.set_cons_succ])
              refine wpAnyH_done (by kernel_rfl) ?_ _
              refine tail_run rfl rfl ?_
              clear hH14
              go_simp
              go_wp2_with fail
              go_meet
              first | refine HFIN.out _ _ _ _ _ ?_ ?_ HS6.out | refine HFIN.out _ _ _ _ _ ?_ ?_ HS6.out.up1.tail
              · omega
              · exact tCells_new _ _ _
            exact AllReadyH.nil
          exact AllReadyH.nil
        exact AllReadyH.nil
      exact AllReadyH.nil
    exact AllReadyH.nil
  case rest =>
  obtain ⟨p6, q6, hcut⟩ := hcut
  obtain ⟨V, hV⟩ : ∃ V : World, V = wc := ⟨_, rfl⟩
  rw [← hV] at hcut ⊢
  have HS2 := Lib.hid hcut
  clear hcut hV HS HM0 HM01 HM10 ka0 ka1 ka01 ka10 b0 HFIN mixed
  obtain ⟨k, hk⟩ : ∃ k, k = ([] : RTP).length := ⟨_, rfl⟩
  have HYK : Hid ((([] ++ (⟨n, [], []⟩, .slice none 0 0, .slice none 0 0) :: []) : RTP)[k]? = some (⟨n, [], []⟩, .slice none 0 0, .slice none 0 0)) := tv_mid hk
  have HKA : Hid (k = 0) := hk
  obtain ⟨g6, rfl, ⟨c0, c1, c2⟩, _⟩ := ref_cells HS2.out HYK.out
  have b0 := (ref_tab HS2.out).1
  have HK := Lib.hid hk
  clear hk
  obtain rfl := HKA.out
  have HFR := Lib.hid (rfree_any V n (v := .slice none 0 0) (.slice none 0 0) (l := []) (.inl ⟨rfl, rfl⟩) (by simp) h want)
  rw [show freeL [] h want = true from rfl] at HFR
  have HEN2 : Hid (∀ (V : World) (p4 : Option Addr) (q4 : Nat), Sep w V (rowRes 76 2 (.slice p4 (0 + 1) q4) (0 + 1) (wCells [] ++ (#[Value.int .i64 h, .int .i64 want] : Array Value).toList) :: openR b (some ⟨g6, 0, none⟩) (0 + 1) q6 ([] ++ (⟨n, [], []⟩, .slice none 0 0, .slice none 0 0) :: []) L) →
      Sep w (V.setCell ⟨g6, 0 * 3 + 1, none⟩ (.slice p4 (0 + 1) q4)) (refRes b t' :: L)) := by
    intro V p4 q4 hv
    rw [← wCells_snoc] at hv
    have h1 := ref_setHas hv rfl (k := 0) (by rw [← HK.out])
    refine ref_shut h1 HLT.out.symm ?_
    rw [HEND.out, List.map_append, List.map_cons]
    rfl
  have hkn : (0 : Nat) < 0 + 1 := by omega
  go_upto_region 18 with fail
  go_wp2_with (go_at_call 33; refine HFR.out.mono ?_; rintro e w2 ⟨rfl, ho2⟩; have hs2 := HS2.out.only ho2; obtain ⟨_, e2, ⟨d0, d1, d2⟩, _⟩ := ref_cells hs2 HYK.out; cases e2; have HWO := Lib.hid (rwithout_any (l := []) hs2.up2 held_mem.1 (by simp) h); clear c0 c1 c2 ho2 hs2)
  have HWO2 : Hid (Calls Tryd.prog 34 #[.slice none 0 0, .int .i64 h] w2 fun e W' => ∃ p q, e = .returned (.slice p 0 q) ∧ Sep w W' (rowRes 76 2 (.slice p 0 q) 0 (wCells []) :: heldsRes (tHelds ([] ++ (⟨n, [], []⟩, .slice none 0 0, .slice none 0 0) :: [])) :: blkRes b (.cells #[.slice (some ⟨g6, 0, none⟩) (0 + 1) q6] 28 (0, 0)) :: rowRes 71 3 (.slice (some ⟨g6, 0, none⟩) (0 + 1) q6) (0 + 1) (tCells ([] ++ (⟨n, [], []⟩, .slice none 0 0, .slice none 0 0) :: [])) :: L)) := HWO.out
  clear HWO
  go_upto_region 19 with fail
  go_wp2_with (first | (at_builtin; refine wpList_append_sep (w := w) (cs := #[.int .i64 h, .int .i64 want]) (e := 76) rfl (.tmp 132) (.tmp 136) 69 rfl ii _ 2 16 Tryd.underlying69 II.out rfl (by decide) _ _ _ rfl rfl rfl rfl (by simp [Value.oneCell']) HS3.out (by unfold maxLen; omega) (by omega) ?_; intro p4 q4 w4 hs4; obtain ⟨_, e4, ⟨_, d1, _⟩, ⟨_, f1, _⟩⟩ := ref_cells hs4.tail HYK.out; cases e4; have HS4 := Lib.hid (HEN2.out w4 p4 q4 hs4); clear hs4) | (go_at_call 34; refine HWO2.out.mono ?_; rintro e w3 ⟨p3, q3, rfl, hs3⟩; have HS3 := Lib.hid (open_perm hs3); clear hs3 d0 d1 d2))
  go_ret
  exact ⟨rfl, HS4.out⟩

end Go.Proofs.YtipfjjcokajjjaaDoor
