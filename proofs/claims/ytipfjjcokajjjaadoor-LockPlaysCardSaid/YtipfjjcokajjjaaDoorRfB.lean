/-
  What is proved here: the document's mode, bars, free, without.
  No condition: each lemma names its own.
-/
import Derived.Test.YtipfjjcokajjjaaDoorRfA
set_option linter.unusedVariables false
set_option linter.unusedSimpArgs false
namespace Go.Proofs.YtipfjjcokajjjaaDoor
open Go.RowKit

theorem drop_at {α : Type} {xs : List α} {i : Nat} {x : α} (h : xs[i]? = some x) : xs.drop i = x :: xs.drop (i + 1) := by
  obtain ⟨hi, rfl⟩ := List.getElem?_eq_some_iff.1 h
  exact List.drop_eq_getElem_cons hi

set_option maxRecDepth 100000 in
theorem rmode_any (W : World) {v : Value} {l : HM} (hv : HeldAt W v l) (hl : l.length ≤ 1000000) (h : Int) :
    Calls Tryd.prog 35 #[v, .int .i64 h] W fun e W' => e = .returned (.int .i64 (modeL l h)) ∧ W = W' := by
  rcases hv with ⟨rfl, rfl⟩ | ⟨g, o, c, rfl, hg, hlc, hcm, hcl⟩
  · go_enter Tryd.func35, Tryd.ntmps35
    go_wp2_with fail
    go_loopg [5] 0 (fun gg s5 wr => s5 = .int .i64 0 ∧ W = wr)
    case atStart => exact ⟨rfl, rfl⟩
    case round =>
      obtain ⟨rfl, rfl⟩ := hrel
      go_wp2_with fail
      go_ret
      exact ⟨rfl, rfl⟩
  · have HC := Lib.hid hcl
    clear hcl
    obtain ⟨N, hN⟩ : ∃ N, N = l.length := ⟨_, rfl⟩
    have HN := Lib.hid hN
    rw [← hN] at hl hlc ⊢
    clear hN
    go_enter Tryd.func35, Tryd.ntmps35
    go_wp2_with fail
    go_loopg [5] N (fun gg s5 wr => ∃ i : Nat, i ≤ N ∧ N - i ≤ gg ∧ s5 = .int .i64 i ∧ W = wr ∧ Aside (modeL l h = modeL (l.drop i) h))
    case atStart => exact ⟨0, Nat.zero_le _, by omega, rfl, rfl, (rfl : modeL l h = modeL (l.drop 0) h)⟩
    case round =>
      obtain ⟨i, hi, hgg, rfl, rfl, HM⟩ := hrel
      have hm : modeL l h = modeL (l.drop i) h := HM
      clear HM
      by_cases hlt : i < N
      · have hltz : (i : Int) < (N : Int) := by omega
        obtain ⟨x, hx⟩ : ∃ x, l[i]? = some x := ⟨l[i]'(by rw [← HN.out]; exact hlt), List.getElem?_eq_getElem _⟩
        obtain ⟨hx1, hx2⟩ := wCells_at hx
        have c0 := HC.out _ _ hx1
        have c1 := HC.out _ _ hx2
        rw [← Nat.add_assoc] at c1
        rw [drop_at hx, modeL_cons] at hm
        obtain ⟨x1, x2⟩ := x
        simp only at c0 c1 hm
        clear hx hx1 hx2
        by_cases he : x1 = h
        · subst he
          rw [if_pos rfl] at hm
          have HM := Lib.hid hm
          clear hm
          go_wp2_with fail
          go_ret
          exact ⟨by rw [HM.out]; rfl, rfl⟩
        · rw [if_neg he] at hm
          have HM := Lib.hid hm
          have he' : (x1 == h) = false := by rw [beq_eq_false_iff_ne]; exact he
          clear hm
          go_wp2_with fail
          go_roundg (N - (i + 1))
          case measure => omega
          case rel => exact ⟨i + 1, by omega, by omega, by go_num, rfl, HM.out⟩
      · have hltz : ¬ (i : Int) < (N : Int) := by omega
        rw [List.drop_eq_nil_of_le (by rw [← HN.out]; omega)] at hm
        have HM := Lib.hid hm
        clear hm
        go_wp2_with fail
        go_ret
        exact ⟨by rw [HM.out]; rfl, rfl⟩

set_option maxRecDepth 100000 in
theorem rbars_any (W : World) (a m h want : Int) :
    Calls Tryd.prog 41 #[.agg #[.int .i64 a, .int .i64 m], .int .i64 h, .int .i64 want] W fun e W' => e = .returned (.bool (barsB (a, m) h want)) ∧ Only [] W W' := by
  have HO := Lib.hid (Only.alloc [] W (.cells #[.int .i64 a, .int .i64 m] 76))
  have hb : (W.alloc (.cells #[.int .i64 a, .int .i64 m] 76)).heap[W.heap.size]? = some (.cells #[.int .i64 a, .int .i64 m] 76 (0, 0)) := heap_alloc_self
  have c0 := cell_of_block hb 0 (v := .int .i64 a) rfl
  have c1 := cell_of_block hb 1 (v := .int .i64 m) rfl
  clear hb
  go_enter Tryd.func41, Tryd.ntmps41
  by_cases e1 : a = h
  · subst e1
    go_wp2_with fail
    go_ret
    exact ⟨by simp [barsB], HO.out⟩
  · by_cases e2 : m = 2
    · subst e2
      go_wp2_with fail
      go_ret
      exact ⟨by simp [barsB, e1], HO.out⟩
    · by_cases e3 : want = 2
      · subst e3
        go_wp2_with fail
        go_ret
        exact ⟨by simp [barsB, e1], HO.out⟩
      · go_wp2_with fail
        go_ret
        exact ⟨by simp [barsB, e1, e2, e3], HO.out⟩

set_option maxRecDepth 100000 in
set_option maxHeartbeats 1000000 in
theorem rfree_any (W : World) (name : ByteArray) {v : Value} (vq : Value) {l : HM} (hv : HeldAt W v l) (hl : l.length ≤ 1000000) (h want : Int) :
    Calls Tryd.prog 33 #[.agg #[.string name, v, vq], .int .i64 h, .int .i64 want] W fun e W' => e = .returned (.bool (freeL l h want)) ∧ Only [] W W' := by
  have HO := Lib.hid (Only.alloc [] W (.cells #[.string name, v, vq] 71))
  have hb0 : (W.alloc (.cells #[.string name, v, vq] 71)).heap[W.heap.size]? = some (.cells #[.string name, v, vq] 71 (0, 0)) := heap_alloc_self
  have HB0 := Lib.hid hb0
  have c0 := cell_of_block hb0 1 (v := v) rfl
  clear hb0
  rcases hv with ⟨rfl, rfl⟩ | ⟨g, o, c, rfl, hg, hlc, hcm, hcl⟩
  · go_enter Tryd.func33, Tryd.ntmps33
    go_wp2_with fail
    go_loopg [7] 0 (fun gg s7 wr => s7 = .int .i64 0 ∧ W.alloc (.cells #[.string name, .slice none 0 0, vq] 71) = wr)
    case atStart => exact ⟨rfl, rfl⟩
    case round =>
      obtain ⟨rfl, rfl⟩ := hrel
      go_wp2_with fail
      go_ret
      exact ⟨rfl, HO.out⟩
  · have HC := Lib.hid hcl
    clear hcl c0
    obtain ⟨N, hN⟩ : ∃ N, N = l.length := ⟨_, rfl⟩
    have HN := Lib.hid hN
    rw [← hN] at hl hlc HO HB0 ⊢
    clear hN
    go_enter Tryd.func33, Tryd.ntmps33
    go_wp2_with fail
    go_loopg [7] N (fun gg s7 wr => ∃ i : Nat, i ≤ N ∧ N - i ≤ gg ∧ s7 = .int .i64 i ∧ Aside (Only [] W wr) ∧ Aside (wr.heap[W.heap.size]? = some (.cells #[.string name, .slice (some ⟨g, o, none⟩) N c, vq] 71 (0, 0))) ∧ Aside (freeL l h want = freeL (l.drop i) h want))
    case atStart => exact ⟨0, Nat.zero_le _, by omega, rfl, HO.out, HB0.out, (rfl : freeL l h want = freeL (l.drop 0) h want)⟩
    case round =>
      obtain ⟨i, hi, hgg, rfl, HO2, HB2, HM⟩ := hrel
      have hO : Only [] W wr := HO2
      have hm : freeL l h want = freeL (l.drop i) h want := HM
      have cb := cell_of_block (show wr.heap[W.heap.size]? = some (.cells #[.string name, .slice (some ⟨g, o, none⟩) N c, vq] 71 (0, 0)) from HB2) 1 (v := .slice (some ⟨g, o, none⟩) N c) rfl
      clear HM HO HB0
      by_cases hlt : i < N
      · have hltz : (i : Int) < (N : Int) := by omega
        obtain ⟨x, hx⟩ : ∃ x, l[i]? = some x := ⟨l[i]'(by rw [← HN.out]; exact hlt), List.getElem?_eq_getElem _⟩
        obtain ⟨hx1, hx2⟩ := wCells_at hx
        have d0 := HC.out _ _ hx1
        have d1 := HC.out _ _ hx2
        rw [← hO.cell (p := ⟨g, o + i * 2, none⟩) hg (by simp)] at d0
        rw [← hO.cell (p := ⟨g, o + (i * 2 + 1), none⟩) hg (by simp), ← Nat.add_assoc] at d1
        rw [drop_at hx] at hm
        obtain ⟨x1, x2⟩ := x
        simp only at d0 d1 hm
        clear hx hx1 hx2
        have hcall := rbars_any wr x1 x2 h want
        cases hq : barsB (x1, x2) h want with
        | true =>
          rw [hq] at hcall
          have hm : freeL l h want = false := by rw [hm]; simp [freeL, hq]
          have HM := Lib.hid hm
          have HCA := Lib.hid hcall
          have HOO := Lib.hid hO
          clear hcall hm hO hq
          go_wp2_with (go_at_call 41; refine HCA.out.mono ?_; rintro e w2 ⟨rfl, ho2⟩; have HO3 := Lib.hid ho2; clear ho2)
          go_ret
          exact ⟨by rw [HM.out]; rfl, HOO.out.trans HO3.out (Within.nil _ _)⟩
        | false =>
          rw [hq] at hcall
          have hm : freeL l h want = freeL (l.drop (i + 1)) h want := by rw [hm]; unfold freeL; rw [List.all_cons, hq]; rfl
          have HM := Lib.hid hm
          have HCA := Lib.hid hcall
          have HOO := Lib.hid hO
          clear hcall hm hO hq
          go_wp2_with (go_at_call 41; refine HCA.out.mono ?_; rintro e w2 ⟨rfl, ho2⟩; have HO3 := Lib.hid ho2; clear ho2)
          go_roundg (N - (i + 1))
          case measure => omega
          case rel => exact ⟨i + 1, by omega, by omega, by go_num, HOO.out.trans HO3.out (Within.nil _ _), HO3.out.keeps HB2 (by simp), HM.out⟩
      · have hltz : ¬ (i : Int) < (N : Int) := by omega
        rw [List.drop_eq_nil_of_le (by rw [← HN.out]; omega)] at hm
        have HM := Lib.hid hm
        have HOO := Lib.hid hO
        clear hm hO
        go_wp2_with fail
        go_ret
        exact ⟨by rw [HM.out]; rfl, HOO.out⟩

theorem Tryd.infoHeld : (Tryd.prog.info? 76).map (fun i => (i.zero, i.size, i.bytes)) = some (some (.agg #[.int .i64 0, .int .i64 0]), 2, 16) := by kernel_rfl
theorem wCells_snoc (a : HM) (x1 x2 : Int) : wCells (a ++ [(x1, x2)]) = wCells a ++ (#[Value.int .i64 x1, .int .i64 x2] : Array Value).toList := by rw [wCells_app]; rfl

set_option maxRecDepth 100000 in
set_option maxHeartbeats 1000000 in
theorem rwithout_any {w W : World} {L : List Res} {vs : List (Value × HM)} {v : Value} {l : HM} (hs : Sep w W (heldsRes vs :: L)) (hx : (v, l) ∈ vs) (hl : l.length ≤ 1000000) (h : Int) :
    Calls Tryd.prog 34 #[v, .int .i64 h] W fun e W' => ∃ p q, e = .returned (.slice p (outL l h).length q) ∧ Sep w W' (rowRes 76 2 (.slice p (outL l h).length q) (outL l h).length (wCells (outL l h)) :: heldsRes vs :: L) := by
  obtain ⟨ii, II⟩ := info_of Tryd.infoHeld
  have HS := Lib.hid (hs.row_nil 76 2)
  rcases hs.helds hx with ⟨rfl, rfl⟩ | ⟨g, o, c, rfl, hg, hlc, hcm, hcl⟩
  · clear hs
    go_enter Tryd.func34, Tryd.ntmps34
    go_wp2_with fail
    go_loopg [6, 5] 0 (fun gg s6 s5 wr => s6 = .int .i64 0 ∧ s5 = .slice none 0 0 ∧ W = wr)
    case atStart => exact ⟨rfl, rfl, rfl⟩
    case round =>
      obtain ⟨rfl, rfl, rfl⟩ := hrel
      go_wp2_with fail
      go_ret
      exact ⟨none, 0, rfl, HS.out⟩
  · clear hcl hg
    obtain ⟨N, hN⟩ : ∃ N, N = l.length := ⟨_, rfl⟩
    have HN := Lib.hid hN
    have HX := Lib.hid hx
    rw [← hN] at hl hlc ⊢
    clear hN hs hx
    go_enter Tryd.func34, Tryd.ntmps34
    go_wp2_with fail
    go_loopg [6, 5] N (fun gg s6 s5 wr => ∃ (i : Nat) (p : Option Addr) (q : Nat), i ≤ N ∧ N - i ≤ gg ∧ s6 = .int .i64 i ∧ s5 = .slice p (outL (l.take i) h).length q ∧ Aside (Sep w wr (rowRes 76 2 (.slice p (outL (l.take i) h).length q) (outL (l.take i) h).length (wCells (outL (l.take i) h)) :: heldsRes vs :: L)))
    case atStart => exact ⟨0, none, 0, Nat.zero_le _, by omega, rfl, rfl, HS.out⟩
    case round =>
      obtain ⟨i, p, q, hi, hgg, rfl, rfl, HS2⟩ := hrel
      have hs2 : Sep w wr (rowRes 76 2 (.slice p (outL (l.take i) h).length q) (outL (l.take i) h).length (wCells (outL (l.take i) h)) :: heldsRes vs :: L) := HS2
      clear HS2 HS
      by_cases hlt : i < N
      · have hltz : (i : Int) < (N : Int) := by omega
        obtain ⟨x, hx⟩ : ∃ x, l[i]? = some x := ⟨l[i]'(by rw [← HN.out]; exact hlt), List.getElem?_eq_getElem _⟩
        obtain ⟨hx1, hx2⟩ := wCells_at hx
        rcases hs2.up1.helds HX.out with ⟨a, _⟩ | ⟨g', o', c', a, hg, _, _, hcl⟩
        · cases a
        simp only [Value.slice.injEq, Option.some.injEq, Addr.mk.injEq] at a
        obtain ⟨⟨rfl, rfl, _⟩, _, rfl⟩ := a
        have d0 := hcl _ _ hx1
        have d1 := hcl _ _ hx2
        rw [← Nat.add_assoc] at d1
        have ht : l.take (i + 1) = l.take i ++ [x] := by rw [List.take_add_one, hx]; rfl
        obtain ⟨x1, x2⟩ := x
        simp only at d0 d1
        have hol : (outL (l.take i) h).length ≤ 1000000 := by
          have h1 : (outL (l.take i) h).length ≤ (l.take i).length := List.length_filter_le _ _
          have h2 : (l.take i).length ≤ i := by rw [List.length_take]; omega
          omega
        clear hx hx1 hx2 hcl
        by_cases he : x1 = h
        · subst he
          have ho : outL (l.take (i + 1)) x1 = outL (l.take i) x1 := by rw [ht]; unfold outL; rw [List.filter_append]; simp
          have HR : Hid (Sep w wr (rowRes 76 2 (.slice p (outL (l.take (i + 1)) x1).length q) (outL (l.take (i + 1)) x1).length (wCells (outL (l.take (i + 1)) x1)) :: heldsRes vs :: L)) := by
            show Sep _ _ _
            rw [ho]
            exact hs2
          have HOUT := Lib.hid ho
          clear ht ho hs2
          go_wp2_with fail
          go_roundg (N - (i + 1))
          case measure => omega
          case rel => exact ⟨i + 1, p, q, by omega, by omega, by go_num, by rw [HOUT.out], HR.out⟩
        · have ho : outL (l.take (i + 1)) h = outL (l.take i) h ++ [(x1, x2)] := by rw [ht]; unfold outL; rw [List.filter_append]; simp [he]
          have he' : (x1 == h) = false := by rw [beq_eq_false_iff_ne]; exact he
          have HOUT := Lib.hid ho
          have HS3 := Lib.hid hs2
          clear ht ho hs2
          go_wp2_with (refine wpList_append_sep (w := w) (cs := #[.int .i64 x1, .int .i64 x2]) (e := 76) (B := wr.heap.size) rfl (.tmp 20) (.tmp 25) 69 rfl ii _ 2 16 Tryd.underlying69 II.out rfl (by decide) _ _ _ rfl rfl rfl rfl (by simp [Value.oneCell']) HS3.out (by unfold maxLen; omega) (by omega) ?_; intro p4 q4 w4 hs4; have HS4 := Lib.hid hs4; clear hs4)
          go_roundg (N - (i + 1))
          case measure => omega
          case rel =>
            refine ⟨i + 1, p4, q4, by omega, by omega, by go_num, by rw [HOUT.out, List.length_append]; rfl, ?_⟩
            show Sep _ _ _
            rw [HOUT.out, wCells_snoc, List.length_append]
            exact HS4.out
      · have hltz : ¬ (i : Int) < (N : Int) := by omega
        have ht : l.take i = l := List.take_of_length_le (by rw [← HN.out]; omega)
        rw [ht] at hs2 ⊢
        have HS3 := Lib.hid hs2
        clear hs2
        go_wp2_with fail
        go_ret
        exact ⟨p, q, rfl, HS3.out⟩

end Go.Proofs.YtipfjjcokajjjaaDoor
