/-
  What is proved here: two lists that are alike are told to be (hedgerowkeep's Ints, Texts); the document's new table.
  No condition: each lemma names its own.
-/
import Derived.Test.YtipfjjcokajjjaaDoorRfK
import Derived.Test.YtipfjjcokajjjaaDoorRfJ
import Derived.Test.YtipfjjcokajjjaaDoorRfL
set_option linter.unusedVariables false
set_option linter.unusedSimpArgs false
namespace Go.Proofs.YtipfjjcokajjjaaDoor
open Go.RowKit

/-- The cells of a slice that begins its block. -/
def CellsAt (W : World) (p : Option Addr) (cs : List Value) : Prop := ∀ (j : Nat) (u : Value), cs[j]? = some u → ∃ g, p = some ⟨g, 0, none⟩ ∧ g < W.heap.size ∧ W.cell? ⟨g, j, none⟩ = some u
theorem CellsAt.only {W W' : World} {p : Option Addr} {cs : List Value} (h : CellsAt W p cs) (ho : Only [] W W') : CellsAt W' p cs := by
  intro j u hu
  obtain ⟨g, e, hg, hc⟩ := h j u hu
  exact ⟨g, e, by have := ho.size; omega, by rw [ho.cell (p := ⟨g, j, none⟩) hg (by simp)]; exact hc⟩
theorem Sep.cellsAt {w W : World} {e : TypeId} {p : Option Addr} {n q : Nat} {cs : List Value} {L : List Res} (h : Sep w W (rowRes e 1 (.slice p n q) n cs :: L)) : CellsAt W p cs := by
  intro j u hu
  obtain ⟨g, e1, h2, _⟩ := ownsRow_cell_of h.row hu
  refine ⟨g, e1, ?_, h2⟩
  rcases h.row.2 with ⟨a, _⟩ | ⟨g', cap, cur, hv, _, hg, _⟩
  · simp only [Value.slice.injEq] at a
    rw [e1] at a
    exact absurd a.1 (by simp)
  · simp only [Value.slice.injEq] at hv
    rw [e1] at hv
    obtain ⟨e2, _⟩ := hv
    cases e2
    exact lt_of_block hg
/-- The document's new table. -/
theorem ref_none {w W : World} {L : List Res} (h : Sep w W L) : Sep w (W.alloc (.cells #[.slice none 0 0] 28)) (refRes W.heap.size [] :: L) := by
  have h1 := (((h.heldsNil).row_nil 71 3).alloc #[.slice none 0 0] 28)
  exact ref_shut (t := []) (tv := []) h1 rfl rfl

set_option maxRecDepth 100000 in
theorem ints_same (W : World) {pa pb : Option Addr} (qa qb : Nat) {xs : List Int} (hl : xs.length ≤ 1000000) (ha : CellsAt W pa (intCells xs)) (hb : CellsAt W pb (intCells xs)) :
    Calls Tryd.prog 15 #[.slice pa xs.length qa, .slice pb xs.length qb] W fun r W' => r = .returned (.bool true) ∧ Only [] W W' := by
  have HA := Lib.hid ha
  have HB := Lib.hid hb
  obtain ⟨N, hN⟩ : ∃ N, N = xs.length := ⟨_, rfl⟩
  have HN := Lib.hid hN
  rw [← hN] at hl ⊢
  clear ha hb hN
  go_enter Tryd.func15, Tryd.ntmps15
  go_wp2_with fail
  go_loopw [5] (fun s5 wr => ∃ i : Nat, i ≤ N ∧ s5 = .int .i64 i ∧ Aside (Only [] W wr)) (fun s5 _ => N - (intOf s5).toNat)
  case atStart => exact ⟨0, Nat.zero_le _, rfl, Only.refl _ _⟩
  case round =>
    obtain ⟨i, hi, rfl, HO⟩ := hrel
    have HO : Hid (Only [] W wr) := HO
    by_cases hlt : i < N
    · obtain ⟨x, hx⟩ : ∃ x, xs[i]? = some x := ⟨xs[i]'(by rw [← HN.out]; exact hlt), List.getElem?_eq_getElem _⟩
      have hc : (intCells xs)[i]? = some (.int .i64 x) := by unfold intCells; rw [List.getElem?_map, hx]; rfl
      obtain ⟨ga, rfl, _, a0⟩ := (HA.out.only HO.out) _ _ hc
      obtain ⟨gb, rfl, _, b0⟩ := (HB.out.only HO.out) _ _ hc
      have v2 : (x != x) = false := by simp
      clear hx hc
      go_wp2_with fail
      go_quiet (fail)
      go_wp2_with fail
      go_roundw
      case rel => exact ⟨i + 1, by omega, by go_num, HO.out.trans (Only.drewN [] _ _) (Within.nil _ _)⟩
      case measure => simp [intOf]; omega
    · go_wp2_with fail
      go_ret
      exact ⟨rfl, HO.out⟩

set_option maxRecDepth 100000 in
theorem texts_same (W : World) {pa pb : Option Addr} (qa qb : Nat) {xs : List ByteArray} (hl : xs.length ≤ 1000000) (ha : CellsAt W pa (strCells xs)) (hb : CellsAt W pb (strCells xs)) :
    Calls Tryd.prog 24 #[.slice pa xs.length qa, .slice pb xs.length qb] W fun r W' => r = .returned (.bool true) ∧ Only [] W W' := by
  have HA := Lib.hid ha
  have HB := Lib.hid hb
  obtain ⟨N, hN⟩ : ∃ N, N = xs.length := ⟨_, rfl⟩
  have HN := Lib.hid hN
  rw [← hN] at hl ⊢
  clear ha hb hN
  go_enter Tryd.func24, Tryd.ntmps24
  go_wp2_with fail
  go_loopw [5] (fun s5 wr => ∃ i : Nat, i ≤ N ∧ s5 = .int .i64 i ∧ Aside (Only [] W wr)) (fun s5 _ => N - (intOf s5).toNat)
  case atStart => exact ⟨0, Nat.zero_le _, rfl, Only.refl _ _⟩
  case round =>
    obtain ⟨i, hi, rfl, HO⟩ := hrel
    have HO : Hid (Only [] W wr) := HO
    by_cases hlt : i < N
    · obtain ⟨x, hx⟩ : ∃ x, xs[i]? = some x := ⟨xs[i]'(by rw [← HN.out]; exact hlt), List.getElem?_eq_getElem _⟩
      have hc : (strCells xs)[i]? = some (.string x) := by unfold strCells; rw [List.getElem?_map, hx]; rfl
      obtain ⟨ga, rfl, _, a0⟩ := (HA.out.only HO.out) _ _ hc
      obtain ⟨gb, rfl, _, b0⟩ := (HB.out.only HO.out) _ _ hc
      have v2 : (x.toList != x.toList) = false := by simp
      clear hx hc
      go_wp2_with fail
      go_quiet (fail)
      go_wp2_with fail
      go_roundw
      case rel => exact ⟨i + 1, by omega, by go_num, HO.out.trans (Only.drewN [] _ _) (Within.nil _ _)⟩
      case measure => simp [intOf]; omega
    · go_wp2_with fail
      go_ret
      exact ⟨rfl, HO.out⟩

end Go.Proofs.YtipfjjcokajjjaaDoor
