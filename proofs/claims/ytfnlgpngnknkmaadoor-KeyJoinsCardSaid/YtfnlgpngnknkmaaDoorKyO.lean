/-
  What is proved here: an argument that is a list of values lies in memory as 'ValsAt' says.
  No condition but that the argument reads as data.
-/
import Derived.Test.YtfnlgpngnknkmaaDoorDoor
import Derived.ProofKit
import Derived.OpenShut
import Derived.Deep.Slices
import Derived.Deep.Fields
namespace Go.Proofs.YtfnlgpngnknkmaaDoor
open Go.RowKit Go.ChangeShapes Go.WideShapes Go.Deep Go.Proofs.YtfnlgpngnknkmaaDoor.F
set_option linter.unusedSimpArgs false
set_option linter.unusedVariables false

section
variable {H : Type} {enc : TypeId × Value → H} {W : World}

set_option maxRecDepth 100000 in
theorem open_vals_at {sp : Nat → Bool} {held : Bool} {fuel : Nat} {v : Value} {x : DataW H × List MemPlace} (h : DataW.trod enc Tryd.prog W 0 sp held fuel 22 [v] = some x) :
    ∃ p l q, v = .slice p (List.length l) q ∧ List.length l ≤ 9223372036854775807 ∧ List.length l ≤ q ∧ ValsAt W p l ∧ In64 l := by
  rcases open_slice Tryd.underlying22 h with ⟨hcs, _⟩ | ⟨a, len, cap, m, n, D, Pl, hcs, _, hl, hm, hmm, _, hx⟩
  · simp only [List.cons.injEq, and_true] at hcs
    subst hcs
    exact ⟨none, [], 0, rfl, by simp, by simp, ValsAt.nil _ _, by intro x hx; simp at hx⟩
  · simp only [List.cons.injEq, and_true] at hcs
    subst hcs
    have hlm : len ≤ m := by rw [hmm]; split <;> omega
    have hC : Tryd.prog.cellsOf 45 = 3 := by kernel_rfl
    have hread : ∀ i, i < len → ∃ y : S45, (-9223372036854775808 ≤ y.f1 ∧ y.f1 ≤ 9223372036854775807) ∧
        W.cell? (a.add (i * 3)) = some (.int .i64 y.f0) ∧ W.cell? (a.add (i * 3 + 1)) = some (.int .i64 y.f1) ∧ W.cell? (a.add (i * 3 + 2)) = some (.string y.f2) := by
      intro i hi
      obtain ⟨cs', h1, h2⟩ := hx i (by omega)
      rw [hC] at h1
      obtain ⟨_, hlen, hat⟩ := World.cells?_some h1
      obtain ⟨xs, n', _, _, hcl, hxl, hf⟩ := DataW.trod_struct Tryd.underlying45 h2
      obtain ⟨c0, c1, c2, rfl⟩ : ∃ c0 c1 c2, cs' = [c0, c1, c2] := by
        match cs', hlen with
        | [c0, c1, c2], _ => exact ⟨c0, c1, c2, rfl⟩
      have g0 : DataW.trod enc Tryd.prog W 0 sp held n' 3 ((([c0, c1, c2] : List Value).drop 0).take (Tryd.prog.cellsOf 3)) = xs[0]? := hf 0 _ rfl
      have g1 : DataW.trod enc Tryd.prog W 0 sp held n' 2 ((([c0, c1, c2] : List Value).drop 1).take (Tryd.prog.cellsOf 2)) = xs[1]? := hf 1 _ rfl
      have g2 : DataW.trod enc Tryd.prog W 0 sp held n' 9 ((([c0, c1, c2] : List Value).drop 2).take (Tryd.prog.cellsOf 9)) = xs[2]? := hf 2 _ rfl
      have l0 : xs[0]? = some (xs[0]'(by rw [hxl]; decide)) := List.getElem?_eq_getElem _
      have l1 : xs[1]? = some (xs[1]'(by rw [hxl]; decide)) := List.getElem?_eq_getElem _
      have l2 : xs[2]? = some (xs[2]'(by rw [hxl]; decide)) := List.getElem?_eq_getElem _
      rw [l0] at g0; rw [l1] at g1; rw [l2] at g2
      have k1 : Tryd.prog.cellsOf 3 = 1 := by kernel_rfl
      have k3 : Tryd.prog.cellsOf 2 = 1 := by kernel_rfl
      have k2 : Tryd.prog.cellsOf 9 = 1 := by kernel_rfl
      simp only [k1, k2, k3, List.drop_zero, List.drop_succ_cons, List.take_succ_cons, List.take_zero] at g0 g1 g2
      obtain ⟨y0, e0, _, w0⟩ := DataW.trod_int Tryd.underlying3 g0
      obtain ⟨y1, e1, _, w1⟩ := DataW.trod_int Tryd.underlying2 g1
      obtain ⟨y2, e2, _, _⟩ := DataW.trod_string Tryd.underlying9 g2
      simp only [List.cons.injEq, and_true] at e0 e1 e2
      subst e0 e1 e2
      have b1 := bounds_i64 w1
      have q0 := hat 0 (by omega)
      have q1 := hat 1 (by omega)
      have q2 := hat 2 (by omega)
      rw [Go.Deep.add_add] at q0 q1 q2
      refine ⟨⟨y0, y1, y2⟩, b1, ?_, ?_, ?_⟩
      · simpa using q0
      · simpa using q1
      · simpa using q2
    obtain ⟨l, hl1, hl2⟩ := list_of len hread
    subst hl1
    refine ⟨some a, l, cap, rfl, ?_, by omega, ?_, ?_⟩
    · simp [maxLen] at hm; omega
    · intro k x hkx
      have h0 : 0 < l.length := by have := (List.getElem?_eq_some_iff.1 hkx).1; omega
      have hz := (hl2 0 _ (List.getElem?_eq_getElem h0)).2.1
      rw [Nat.zero_mul, add_zero'] at hz
      obtain ⟨b, o, rfl, hb⟩ := addr_plain hz
      obtain ⟨_, c0, c1, c2⟩ := hl2 k x hkx
      rw [add_at] at c0 c1 c2
      exact ⟨b, o, rfl, hb, c0, c1, c2⟩
    · intro x hx
      obtain ⟨k, hk⟩ := List.getElem?_of_mem hx
      exact (hl2 k x hk).1
end

theorem open_vals {H : Type} {enc : TypeId × Value → H} {W : World} {sp : Nat → Bool} {v : Value} {d : DataW H} {ps : List MemPlace} (hv : ∃ a len cap, v = .slice a len cap) (h : DataW.Trod enc Tryd.prog W 0 sp true 22 v d ps) :
    ∃ p l q, v = .slice p (List.length l) q ∧ List.length l ≤ 9223372036854775807 ∧ List.length l ≤ q ∧ ValsAt W p l ∧ In64 l := by
  obtain ⟨a, len, cap, rfl⟩ := hv
  obtain ⟨fuel, hf⟩ := h
  exact open_vals_at hf

theorem own : ownKnob Tryd.prog.godebug = none := by kernel_rfl
theorem laidOut : laidOutB Tryd.prog = true := by kernel_rfl

end Go.Proofs.YtfnlgpngnknkmaaDoor
