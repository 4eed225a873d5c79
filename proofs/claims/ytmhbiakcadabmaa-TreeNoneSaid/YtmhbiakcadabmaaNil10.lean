/-
  What is proved here: what a tree that nobody made answers.
  No condition.
-/
import Derived.Test.YtmhbiakcadabmaaLaw10
set_option linter.unusedVariables false
namespace Go.Proofs.Ytmhbiakcadabmaa
open Go.RowKit

theorem nput (key : ByteArray) (n : Int) (w : World) : Calls Try.prog 15 #[.pointer none, .string key, .int .i64 n] w fun r w' => r = .returned (.tuple #[.bool false, .int .i64 1]) ∧ Only [] w w' := by
  go_enter Try.func15, Try.ntmps15
  go_wp2_with fail
  go_ret2
  exact ⟨rfl, by first | exact Only.refl _ _ | exact Only.drewN [] _ _ | exact (Only.alloc [] _ _) | exact (Only.alloc [] _ _).trans (Only.alloc [] _ _) (Within.nil _ _) | exact ((Only.alloc [] _ _).trans (Only.alloc [] _ _) (Within.nil _ _)).trans (Only.alloc [] _ _) (Within.nil _ _)⟩

theorem nget (key : ByteArray) (w : World) : Calls Try.prog 22 #[.pointer none, .string key] w fun r w' => r = .returned (.tuple #[.int .i64 0, .bool false]) ∧ Only [] w w' := by
  go_enter Try.func22, Try.ntmps22
  go_wp2_with fail
  go_step3
  go_wp2_with fail
  (try rw [Exit.noGoto_ret])
  go_ret2
  exact ⟨rfl, by first | exact Only.refl _ _ | exact Only.drewN [] _ _ | exact (Only.alloc [] _ _) | exact (Only.alloc [] _ _).trans (Only.alloc [] _ _) (Within.nil _ _) | exact ((Only.alloc [] _ _).trans (Only.alloc [] _ _) (Within.nil _ _)).trans (Only.alloc [] _ _) (Within.nil _ _)⟩

theorem nat (key : ByteArray) (w : World) : Calls Try.prog 25 #[.pointer none, .string key] w fun r w' => r = .returned (.tuple #[.string ⟨#[]⟩, .int .i64 0, .bool false]) ∧ Only [] w w' := by
  go_enter Try.func25, Try.ntmps25
  go_wp2_with fail
  go_step3
  go_wp2_with fail
  (try rw [Exit.noGoto_ret])
  go_ret3
  exact ⟨rfl, by first | exact Only.refl _ _ | exact Only.drewN [] _ _ | exact (Only.alloc [] _ _) | exact (Only.alloc [] _ _).trans (Only.alloc [] _ _) (Within.nil _ _) | exact ((Only.alloc [] _ _).trans (Only.alloc [] _ _) (Within.nil _ _)).trans (Only.alloc [] _ _) (Within.nil _ _)⟩

theorem nbef (key : ByteArray) (w : World) : Calls Try.prog 26 #[.pointer none, .string key] w fun r w' => r = .returned (.tuple #[.string ⟨#[]⟩, .int .i64 0, .bool false]) ∧ Only [] w w' := by
  go_enter Try.func26, Try.ntmps26
  go_wp2_with fail
  go_step3
  go_wp2_with fail
  (try rw [Exit.noGoto_ret])
  go_ret3
  exact ⟨rfl, by first | exact Only.refl _ _ | exact Only.drewN [] _ _ | exact (Only.alloc [] _ _) | exact (Only.alloc [] _ _).trans (Only.alloc [] _ _) (Within.nil _ _) | exact ((Only.alloc [] _ _).trans (Only.alloc [] _ _) (Within.nil _ _)).trans (Only.alloc [] _ _) (Within.nil _ _)⟩

theorem ndel (key : ByteArray) (w : World) : Calls Try.prog 13 #[.pointer none, .string key] w fun r w' => r = .returned (.bool false) ∧ Only [] w w' := by
  go_enter Try.func13, Try.ntmps13
  go_wp2_with fail
  go_quiet (fail)
  go_wp2_with fail
  go_ret
  exact ⟨rfl, by first | exact Only.refl _ _ | exact Only.drewN [] _ _ | exact (Only.alloc [] _ _) | exact (Only.alloc [] _ _).trans (Only.alloc [] _ _) (Within.nil _ _) | exact ((Only.alloc [] _ _).trans (Only.alloc [] _ _) (Within.nil _ _)).trans (Only.alloc [] _ _) (Within.nil _ _)⟩

theorem nrange (key hi : ByteArray) (n : Int) (w : World) : Calls Try.prog 18 #[.pointer none, .string key, .string hi, .int .i64 n] w fun r w' => r = .returned (.slice none 0 0) ∧ Only [] w w' := by
  go_enter Try.func18, Try.ntmps18
  go_wp2_with fail
  go_ret
  exact ⟨rfl, by first | exact Only.refl _ _ | exact Only.drewN [] _ _ | exact (Only.alloc [] _ _) | exact (Only.alloc [] _ _).trans (Only.alloc [] _ _) (Within.nil _ _) | exact ((Only.alloc [] _ _).trans (Only.alloc [] _ _) (Within.nil _ _)).trans (Only.alloc [] _ _) (Within.nil _ _)⟩

theorem nlen  (w : World) : Calls Try.prog 23 #[.pointer none] w fun r w' => r = .returned (.int .i64 0) ∧ Only [] w w' := by
  go_enter Try.func23, Try.ntmps23
  go_wp2_with fail
  go_ret
  exact ⟨rfl, by first | exact Only.refl _ _ | exact Only.drewN [] _ _ | exact (Only.alloc [] _ _) | exact (Only.alloc [] _ _).trans (Only.alloc [] _ _) (Within.nil _ _) | exact ((Only.alloc [] _ _).trans (Only.alloc [] _ _) (Within.nil _ _)).trans (Only.alloc [] _ _) (Within.nil _ _)⟩

theorem ndepth  (w : World) : Calls Try.prog 28 #[.pointer none] w fun r w' => r = .returned (.int .i64 0) ∧ Only [] w w' := by
  go_enter Try.func28, Try.ntmps28
  go_wp2_with fail
  go_ret
  exact ⟨rfl, by first | exact Only.refl _ _ | exact Only.drewN [] _ _ | exact (Only.alloc [] _ _) | exact (Only.alloc [] _ _).trans (Only.alloc [] _ _) (Within.nil _ _) | exact ((Only.alloc [] _ _).trans (Only.alloc [] _ _) (Within.nil _ _)).trans (Only.alloc [] _ _) (Within.nil _ _)⟩

theorem ncopy  (w : World) : Calls Try.prog 24 #[.pointer none] w fun r w' => r = .returned (.pointer none) ∧ Only [] w w' := by
  go_enter Try.func24, Try.ntmps24
  go_wp2_with fail
  go_ret
  exact ⟨rfl, by first | exact Only.refl _ _ | exact Only.drewN [] _ _ | exact (Only.alloc [] _ _) | exact (Only.alloc [] _ _).trans (Only.alloc [] _ _) (Within.nil _ _) | exact ((Only.alloc [] _ _).trans (Only.alloc [] _ _) (Within.nil _ _)).trans (Only.alloc [] _ _) (Within.nil _ _)⟩

end Go.Proofs.Ytmhbiakcadabmaa
