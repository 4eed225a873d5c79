/-
  What is proved here: a pair of texts as an argument.
  No condition but that the argument reads as data.
-/
import Derived.Test.YtmhbiakcadabmaaOpen
namespace Go.Proofs.Ytmhbiakcadabmaa
open Go.RowKit Go.ChangeShapes Go.WideShapes Go.Deep

theorem pair_cells (cs : Array Value) (h : cs.size = 2) : ∃ a b, cs = #[a, b] := by
  obtain ⟨l⟩ := cs
  match l, h with
  | [a, b], _ => exact ⟨a, b, rfl⟩

theorem open_pair {H : Type} {enc : TypeId × Value → H} {W : World} {sp : Nat → Bool} {base : Nat} {v : Value} {d : DataW H} {ps : List MemPlace} (hv : Value.okWide Try.prog W .any base 23 v) (h : DataW.Trod enc Try.prog W 0 sp true 23 v d ps) :
    ∃ a b, v = .agg #[.string a, .string b] ∧ a.size ≤ maxLen ∧ b.size ≤ maxLen := by
  obtain ⟨cs, rfl, hsz, _⟩ : ∃ cs, v = .agg cs ∧ cs.size = Try.prog.cellsOf 23 ∧ Row.okWide Try.prog W .any base 23 cs := by
    simpa [Value.okWide, Try.underlying23] using hv
  have hC : Try.prog.cellsOf 23 = 2 := by kernel_rfl
  have h1 : Try.prog.cellsOf 9 = 1 := by kernel_rfl
  rw [hC] at hsz
  obtain ⟨a, b, rfl⟩ := pair_cells cs hsz
  obtain ⟨fuel, hf⟩ := h
  obtain ⟨xs, m, _, _, _, hxl, hel⟩ := DataW.trod_array Try.underlying23 hf
  have g0 := hel 0 (by omega)
  have g1 := hel 1 (by omega)
  have l0 : xs[0]? = some (xs[0]'(by rw [hxl]; decide)) := List.getElem?_eq_getElem _
  have l1 : xs[1]? = some (xs[1]'(by rw [hxl]; decide)) := List.getElem?_eq_getElem _
  rw [l0, h1] at g0
  rw [l1, h1] at g1
  obtain ⟨y0, e0, _, w0⟩ := DataW.trod_string Try.underlying9 g0
  obtain ⟨y1, e1, _, w1⟩ := DataW.trod_string Try.underlying9 g1
  simp [Value.cells] at e0 e1
  subst e0 e1
  exact ⟨y0, y1, rfl, w0, w1⟩
end Go.Proofs.Ytmhbiakcadabmaa
