/-
  What is proved here: a key that is too long, or one too many (Put of package tree, where it refuses).
  No condition: each lemma names its own.
-/
import Derived.Test.YtpaffpiaoanegaaTreeN
set_option linter.unusedVariables false
set_option linter.unusedSimpArgs false
namespace Go.Proofs.Ytpaffpiaoanegaa
open Go.RowKit

theorem getL_some (L : List E) (key : ByteArray) : (getL L key).isSome = here L key := by
  unfold getL
  cases here L key <;> rfl

theorem tput_long {W : World} {q : Nat} (key : ByteArray) (n : Int) (h : 4096 < key.size) :
    Calls Try.prog 25 #[.pointer (some ⟨q, 0, none⟩), .string key, .int .i64 n] W fun r W' => r = .returned (.tuple #[.bool false, .int .i64 2]) ∧ W = W' := by
  have h' : (4096 : Int) < (key.size : Int) := by omega
  go_enter Try.func25, Try.ntmps25
  go_wp2_with fail
  go_ret2
  exact ⟨rfl, rfl⟩

set_option maxRecDepth 100000 in
theorem tput_many {W : World} {q fan : Nat} {L : List E} (hT : TreeAt W q fan L) (key : ByteArray) (n : Int) (h : key.size ≤ 4096) (hn : L.length = 4096) (hh : here L key = false) :
    Calls Try.prog 25 #[.pointer (some ⟨q, 0, none⟩), .string key, .int .i64 n] W fun r W' => r = .returned (.tuple #[.bool false, .int .i64 3]) ∧ Only [] W W' := by
  have h' : ¬ ((4096 : Int) < (key.size : Int)) := by omega
  have HT := Lib.hid hT
  have HH := Lib.hid hh
  obtain ⟨p, hg, t, hb, _⟩ := hT.open
  have k2 := cell_of_block hb 2 (v := .int .i64 L.length) rfl
  rw [hn] at k2
  have HK := Lib.hid k2
  clear hT hh hb k2
  go_enter Try.func25, Try.ntmps25
  go_wp2_with fail
  refine (get_any HT.out key).mono ?_
  rintro r w1 ⟨rfl, o1⟩
  have k2 := (o1.cell (block_lt_of_cell HK.out) (by simp)).trans HK.out
  have O1 := Lib.hid o1; clear o1
  rw [getL_some, HH.out]
  go_wp2_with fail
  go_ret2
  exact ⟨rfl, O1.out⟩

end Go.Proofs.Ytpaffpiaoanegaa
