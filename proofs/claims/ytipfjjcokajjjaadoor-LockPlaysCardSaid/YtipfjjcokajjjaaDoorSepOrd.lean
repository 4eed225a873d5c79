/-
  What is proved here: parts in any order, by counting; facts of any part; for any program.
  No condition: each lemma names its own.
-/
import Derived.Test.YtipfjjcokajjjaaDoorLkA
set_option linter.unusedVariables false
namespace Go.Proofs.YtipfjjcokajjjaaDoor
open Go.RowKit

open Classical in
/-- The same parts in another order. -/
theorem Sep.reorder {w W : World} {l l' : List Res} (h : Sep w W l) (hp : ∀ x : Res, l.count x = l'.count x) : Sep w W l' := h.perm (List.perm_iff_count.2 hp)

theorem Parts.mem {W : World} : ∀ {l : List Res} {F : List Nat}, Parts W l F → ∀ {R : Res}, R ∈ l → ∃ G, R.at' W G
  | [], _, _, _, hm => by cases hm
  | S :: l, F, ⟨F1, F2, _, h1, h2, _⟩, R, hm => by
    rcases List.mem_cons.1 hm with rfl | q
    · exact ⟨F1, h1⟩
    · exact Parts.mem h2 q
theorem Sep.mem {w W : World} {l : List Res} (h : Sep w W l) {R : Res} (hm : R ∈ l) : ∃ F, R.at' W F := by
  obtain ⟨F, h1, _⟩ := h
  exact Parts.mem h1 hm
theorem Sep.blkOf {w W : World} {l : List Res} (h : Sep w W l) {g : Nat} {o : Obj} (hm : blkRes g o ∈ l) : W.heap[g]? = some o := by
  obtain ⟨F, _, h⟩ := h.mem hm; exact h
theorem Sep.mapOf {w W : World} {l : List Res} (h : Sep w W l) {α β : Type} {mk : α → Value} {mv : β → Value} {ks : List (α × β)} {r : Nat} (hm : mapRes mk mv ks r ∈ l) : ∃ o, W.heap[r]? = some o ∧ MapIs mk mv ks o := by
  obtain ⟨F, o, ⟨F1, F2, _, ⟨_, hb⟩, _⟩, hq⟩ := h.mem hm
  exact ⟨o, hb, hq⟩

end Go.Proofs.YtipfjjcokajjjaaDoor
