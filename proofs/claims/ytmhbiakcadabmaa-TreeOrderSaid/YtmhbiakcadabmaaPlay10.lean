/-
  What is proved here: what the laws on trees share: a new document's tree; a tree and a document's tree side by side.
  No condition: each lemma names its own.
-/
import Derived.Test.YtmhbiakcadabmaaPlayM10
import Derived.Test.YtmhbiakcadabmaaWakes10
set_option linter.unusedVariables false
set_option linter.unusedSimpArgs false
namespace Go.Proofs.Ytmhbiakcadabmaa
open Go.RowKit

theorem ref_new {w W : World} {l : List Res} (h : Sep w W l) : Sep w (W.alloc (.cells #[.slice none 0 0] 33)) (refRes W.heap.size [] :: l) := by
  have h1 := (h.alloc #[.slice none 0 0] 33).row_nil 50 2
  refine Sep.close (ps := refParts W.heap.size []) (none, 0) ?_ trivial
  simpa [refParts, cellsE] using h1.up1

theorem RefAt.cell0 {W : World} {b : Nat} {L : List E} (h : RefAt W b L) : ∃ p q, W.cell? ⟨b, 0, none⟩ = some (.slice p L.length q) ∧ EntsAt W p L := by
  obtain ⟨p, q, hb, hrow⟩ := h.open
  exact ⟨p, q, cell_of_block hb 0 (v := .slice p L.length q) rfl, entsAt_row hrow⟩

theorem Sep.sortedL {w W : World} {q fan : Nat} {L : List E} {l : List Res} (hs : Sep w W (treeRes q fan L :: l)) : Sorted L := by
  obtain ⟨p, h, t, _, _, hr, hL, _, _⟩ := hs.tree.open
  rw [← hL]
  exact hr.sorted

theorem fair_key {l : List StepD} (h : fairB l = true) {i : Nat} {x : StepD} (hx : l[i]? = some x) : x.key.size ≤ 5000 := (fair_true h).2 x (List.mem_of_getElem? hx)

theorem StepsAt.at {w : World} {b o : Nat} {l : List StepD} (h : StepsAt w (some ⟨b, o, none⟩) l) {i : Nat} {x : StepD} (hx : l[i]? = some x) :
    w.cell? ⟨b, o + i * 3, none⟩ = some (.int .i64 x.kind) ∧ w.cell? ⟨b, o + i * 3 + 1, none⟩ = some (.string x.key) ∧ w.cell? ⟨b, o + i * 3 + 2, none⟩ = some (.int .i64 x.n) := by
  obtain ⟨b', o', e, _, _, _, c0, c1, c2⟩ := h i x hx
  simp only [Option.some.injEq, Addr.mk.injEq, and_true] at e
  obtain ⟨rfl, rfl⟩ := e
  exact ⟨c0, c1, c2⟩

theorem rangeL_len (L : List E) (key upto : ByteArray) (most : Int) : (rangeL L key upto most).length ≤ L.length := by
  unfold rangeL
  have h := runL_len upto most (filt key L) []
  have h2 : (filt key L).length ≤ L.length := by unfold filt; rw [List.length_drop]; omega
  simp only [List.length_nil] at h
  omega

end Go.Proofs.Ytmhbiakcadabmaa
