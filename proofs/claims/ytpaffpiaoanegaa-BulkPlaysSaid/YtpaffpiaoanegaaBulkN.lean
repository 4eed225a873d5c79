/-
  What is proved here: the bulk that nobody made; the statements' 'wakes' answers true.
  No condition.
-/
import Derived.Test.YtpaffpiaoanegaaBulkF
import Derived.Test.YtpaffpiaoanegaaBulkD
import Derived.Test.YtpaffpiaoanegaaLaw10
set_option linter.unusedVariables false
set_option linter.unusedSimpArgs false
namespace Go.Proofs.Ytpaffpiaoanegaa
open Go.RowKit

theorem nlast (W : World) : Calls Try.prog 7 #[.pointer none] W fun r W' => r = .returned (.tuple #[.string ⟨#[]⟩, .bool false]) ∧ W = W' := by
  go_enter Try.func7, Try.ntmps7
  go_wp2_with fail
  go_ret2
  exact ⟨rfl, rfl⟩
theorem nlen (W : World) : Calls Try.prog 10 #[.pointer none] W fun r W' => r = .returned (.int .i64 0) ∧ W = W' := by
  go_enter Try.func10, Try.ntmps10
  go_wp2_with fail
  go_ret
  exact ⟨rfl, rfl⟩
theorem ndone (W : World) : Calls Try.prog 8 #[.pointer none] W fun r W' => r = .returned (.tuple #[.pointer none, .int .i64 1]) ∧ Only [] W W' := by
  go_enter Try.func8, Try.ntmps8
  go_wp2_with fail
  go_ret2
  exact ⟨rfl, Only.alloc _ _ _⟩
theorem nfault (W : World) (v : Value) : Calls Try.prog 30 #[.pointer none, v] W fun r W' => r = .returned (.int .i64 1) ∧ W = W' := by
  go_enter Try.func30, Try.ntmps30
  go_wp2_with fail
  go_ret
  exact ⟨rfl, rfl⟩
theorem nadd (W : World) (v : Value) : Calls Try.prog 9 #[.pointer none, v] W fun r W' => r = .returned (.int .i64 1) ∧ W = W' := by
  go_enter Try.func9, Try.ntmps9
  go_wp2_with fail
  refine (nfault W v).mono ?_
  rintro r w1 ⟨rfl, rfl⟩
  go_wp2_with fail
  go_ret
  exact ⟨rfl, rfl⟩

def wl : List E := [(⟨#[97]⟩, 1), (⟨#[98]⟩, 2)]
theorem wl1 : addR [] wl = (wl, 0) := by kernel_rfl
theorem wl2 : addR wl [(⟨#[98]⟩, 0)] = (wl, 110) := by kernel_rfl
theorem wl3 : getL wl ⟨#[98]⟩ = some 2 := by kernel_rfl

set_option maxRecDepth 100000 in
set_option maxHeartbeats 2000000 in
theorem wakes_any (w : World) : Calls Try.prog 11 #[] w fun r w' => r = .returned (.bool true) ∧ Only [] w w' := by
  have hn := bnew_any (Sep.nil w) 3 (by omega) (by omega)
  rw [show ((3 : Nat) : Int) = 3 from rfl] at hn
  have HN := Lib.hid hn; clear hn
  go_enter Try.func11, Try.ntmps11
  go_wp2_with fail
  refine HN.out.mono ?_
  rintro r w1 ⟨g, rfl, hs1⟩
  have h1 : Sep w (w1.alloc (.cells #[.string ⟨#[97]⟩, .int .i64 1, .string ⟨#[98]⟩, .int .i64 2] 31)) (bulkRes g 3 [] 0 false :: [rowRes 31 2 (.slice (some ⟨w1.heap.size, 0, none⟩) 2 2) 2 (cellsE wl)]) := (hs1.row_full 31 2 2 #[.string ⟨#[97]⟩, .int .i64 1, .string ⟨#[98]⟩, .int .i64 2] rfl (by unfold maxLen; omega)).up1
  have hA := badd_any h1 (p := some ⟨w1.heap.size, 0, none⟩) (l := wl) 2 (fun W' L' h => entsAt_row (h.up1.row)) (by simp) (by decide)
  rw [wl1] at hA
  have HA := Lib.hid hA
  clear hA h1 hs1
  go_wp2_with fail
  refine HA.out.mono ?_
  rintro r w2 ⟨rfl, hs2⟩
  have h1 : Sep w (w2.alloc (.cells #[.string ⟨#[98]⟩, .int .i64 0] 31)) (bulkRes g 3 wl 0 false :: [rowRes 31 2 (.slice (some ⟨w2.heap.size, 0, none⟩) 1 1) 1 (cellsE [(⟨#[98]⟩, 0)])]) := ((hs2.up1.tail).row_full 31 2 1 #[.string ⟨#[98]⟩, .int .i64 0] rfl (by unfold maxLen; omega)).up1
  have hA := badd_any h1 (p := some ⟨w2.heap.size, 0, none⟩) (l := [(⟨#[98]⟩, 0)]) 1 (fun W' L' h => entsAt_row (h.up1.row)) (by decide) (by decide)
  rw [wl2] at hA
  have HA2 := Lib.hid hA
  clear hA h1 hs2 HA
  go_wp2_with fail
  refine HA2.out.mono ?_
  rintro r w3 ⟨rfl, hs3⟩
  have HS3 := Lib.hid (hs3.up1.tail)
  clear hs3 HA2
  go_wp2_with fail
  refine (bdone_first HS3.out).mono ?_
  rintro r w4 ⟨t, rfl, hs4⟩
  have HS4 := Lib.hid hs4; clear hs4
  go_wp2_with fail
  refine (bdone_again HS4.out.up1).mono ?_
  rintro r w5 ⟨rfl, ho5⟩
  have HS5 := Lib.hid (HS4.out.only ho5); clear ho5
  go_wp2_with fail
  refine (get_any HS5.out.tree ⟨#[98]⟩).mono ?_
  rintro r w6 ⟨rfl, ho6⟩
  have HS6 := Lib.hid (HS5.out.only ho6); clear ho6
  rw [wl3]
  simp only [Option.getD, Option.isSome]
  go_wp2_with fail
  refine (len_any HS6.out.tree).mono ?_
  rintro r w7 ⟨rfl, rfl⟩
  rw [show ((wl.length : Nat) : Int) = 2 from rfl]
  go_wp2_with fail
  go_ret
  exact ⟨rfl, HS6.out.old⟩

end Go.Proofs.Ytpaffpiaoanegaa
