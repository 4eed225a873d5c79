/-
  What is proved here: a tree without keys (New of package tree).
  No condition: each lemma names its own.
-/
import Derived.Test.YtpaffpiaoanegaaTreeO
set_option linter.unusedVariables false
set_option linter.unusedSimpArgs false
namespace Go.Proofs.Ytpaffpiaoanegaa
open Go.RowKit

theorem new_bad {W : World} (fan : Int) (h : fan < 3 ∨ 64 < fan) :
    Calls Try.prog 33 #[.int .i64 fan] W fun r W' => r = .returned (.tuple #[.pointer none, .int .i64 1]) ∧ W = W' := by
  by_cases h1 : fan < 3
  · go_enter Try.func33, Try.ntmps33
    go_wp2_with fail
    go_ret2
    exact ⟨rfl, rfl⟩
  · have h2 : 64 < fan := by omega
    go_enter Try.func33, Try.ntmps33
    go_wp2_with fail
    go_ret2
    exact ⟨rfl, rfl⟩

theorem new_any {w W : World} {l : List Res} (hs : Sep w W l) (fan : Nat) (h3 : 3 ≤ fan) (h64 : fan ≤ 64) :
    Calls Try.prog 33 #[.int .i64 fan] W fun r W' => ∃ q, r = .returned (.tuple #[.pointer (some ⟨q, 0, none⟩), .int .i64 0]) ∧ Sep w W' (treeRes q fan [] :: l) := by
  have h1 : ¬ ((fan : Int) < 3) := by omega
  have h2 : ¬ (64 < (fan : Int)) := by omega
  have HS := Lib.hid hs; clear hs
  go_enter Try.func33, Try.ntmps33
  go_wp2_with fail
  go_ret2
  refine ⟨_, rfl, ?_⟩
  have a1 := HS.out.alloc #[.slice none 0 0, .slice none 0 0] 91
  have a2 := ((a1.row_nil 84 1).row_nil 31 2)
  have a3 : Sep w _ (nodeRes 0 W.heap.size (.nd [] []) :: l) := Sep.nodeShut2 (n := 0) (m := 0) (ps := []) rfl rfl rfl (a2.up2)
  have a4 := a3.alloc #[.int .i64 fan, .pointer (some ⟨W.heap.size, 0, none⟩), .int .i64 0] 86
  exact Sep.close (ps := treeParts (W.heap.size + 1) fan 0) (W.heap.size, 0, T.nd [] []) (by simpa [treeParts] using a4) ⟨⟨rfl, by simp; omega, fun h => absurd (show 0 < 0 from h) (Nat.lt_irrefl 0), List.Pairwise.nil⟩, rfl, h3, h64⟩

end Go.Proofs.Ytpaffpiaoanegaa
