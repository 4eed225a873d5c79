/-
  What is proved here: what the laws on bulks share: a new document's tree; pieces of a list of keys by rising order.
  No condition: each lemma names its own.
-/
import Derived.Test.YtpaffpiaoanegaaBulkW
import Derived.Test.YtpaffpiaoanegaaPlayM10
set_option linter.unusedVariables false
set_option linter.unusedSimpArgs false
namespace Go.Proofs.Ytpaffpiaoanegaa
open Go.RowKit

theorem ref_new {w W : World} {l : List Res} (h : Sep w W l) : Sep w (W.alloc (.cells #[.slice none 0 0] 41)) (refRes W.heap.size [] :: l) := by
  have h1 := (h.alloc #[.slice none 0 0] 41).row_nil 46 2
  exact Sep.close (ps := refParts W.heap.size []) (none, 0) h1.up1 trivial
theorem RefAt.cell0 {W : World} {b : Nat} {L : List E} (h : RefAt W b L) : ∃ p q, W.cell? ⟨b, 0, none⟩ = some (.slice p L.length q) ∧ EntsAt W p L := by
  obtain ⟨p, q, hb, hrow⟩ := h.open
  exact ⟨p, q, cell_of_block hb 0 (v := .slice p L.length q) rfl, entsAt_row hrow⟩

theorem longB_short {l : List E} (h : Short l 4096) : longB l = false := by
  unfold longB
  rw [List.any_eq_false]
  intro x hx
  have := h x hx
  simpa using this
theorem addR_piece {L : List E} (hs : Sorted L) (hsh : Short L 4096) (hl : L.length ≤ 4096) (o k : Nat) : addR (L.take o) ((L.drop o).take k) = (L.take (o + k), 0) := by
  have e : L.take o ++ (L.drop o).take k = L.take (o + k) := (List.take_add (l := L) (i := o) (j := k)).symm
  have s1 : Sorted (L.take o) := hs.sublist (List.take_sublist _ _)
  have s2 : Sorted (L.take o ++ (L.drop o).take k) := by rw [e]; exact hs.sublist (List.take_sublist _ _)
  rw [addR_ok (longB_short fun x hx => hsh x (List.mem_of_mem_drop (List.mem_of_mem_take hx))) ((ord_sorted _ s1).2 s2) (by
    have := congrArg List.length e
    rw [List.length_append] at this
    rw [this, List.length_take]; omega), e]
theorem addR_rest {L : List E} (hs : Sorted L) (hsh : Short L 4096) (hl : L.length ≤ 4096) (o : Nat) : addR (L.take o) (L.drop o) = (L, 0) := by
  have h := addR_piece hs hsh hl o L.length
  have e1 : (L.drop o).take L.length = L.drop o := List.take_of_length_le (by rw [List.length_drop]; omega)
  have e2 : L.take (o + L.length) = L := List.take_of_length_le (by omega)
  rw [e1, e2] at h
  exact h
theorem addR_whole {L : List E} (hs : Sorted L) (hsh : Short L 4096) (hl : L.length ≤ 4096) : addR [] L = (L, 0) := addR_rest hs hsh hl 0

theorem EntsAt.take {W : World} {p : Option Addr} {l : List E} (h : EntsAt W p l) (k : Nat) : EntsAt W p (l.take k) := by
  intro j x hx
  rw [List.getElem?_take] at hx
  split at hx
  · exact h j x hx
  · cases hx
theorem EntsAt.drop {W : World} {g off : Nat} {l : List E} (h : EntsAt W (some ⟨g, off, none⟩) l) (k : Nat) : EntsAt W (some ⟨g, off + k * 2, none⟩) (l.drop k) := by
  intro j x hx
  rw [List.getElem?_drop] at hx
  obtain ⟨b, o, e, hb, c0, c1⟩ := h (k + j) x hx
  simp only [Option.some.injEq, Addr.mk.injEq, and_true] at e
  obtain ⟨rfl, rfl⟩ := e
  have e1 : off + (k + j) * 2 = off + k * 2 + j * 2 := by omega
  rw [e1] at c0 c1
  exact ⟨_, _, rfl, hb, c0, c1⟩
theorem EntsAt.none {W : World} {p : Option Addr} : EntsAt W p [] := by intro j x hx; cases hx

end Go.Proofs.Ytpaffpiaoanegaa
