/-
  What is proved here: the statements' 'wakes' answers true.
  No condition.
-/
import Derived.Test.YtmhbiakcadabmaaLaw10
set_option linter.unusedVariables false
set_option linter.unusedSimpArgs false
namespace Go.Proofs.Ytmhbiakcadabmaa
open Go.RowKit

def wk : List E := [(⟨#[97]⟩, 1), (⟨#[98]⟩, 2), (⟨#[99]⟩, 3)]
theorem wk1 : putR [] (⟨#[98]⟩, 2) = ([(⟨#[98]⟩, 2)], true, 0) := by kernel_rfl
theorem wk2 : putR [(⟨#[98]⟩, 2)] (⟨#[97]⟩, 1) = ([(⟨#[97]⟩, 1), (⟨#[98]⟩, 2)], true, 0) := by kernel_rfl
theorem wk3 : putR [(⟨#[97]⟩, 1), (⟨#[98]⟩, 2)] (⟨#[99]⟩, 3) = (wk, true, 0) := by kernel_rfl
theorem wk4 : rangeL wk ⟨#[]⟩ ⟨#[]⟩ 9 = wk := by kernel_rfl

set_option maxRecDepth 100000 in
set_option maxHeartbeats 2000000 in
theorem wakes_any (w : World) : Calls Try.prog 12 #[] w fun r w' => r = .returned (.bool true) ∧ Only [] w w' := by
  have hn := new_any (Sep.nil w) 3 (by omega) (by omega)
  rw [show ((3 : Nat) : Int) = 3 from rfl] at hn
  have HN := Lib.hid hn; clear hn
  go_enter Try.func12, Try.ntmps12
  go_wp2_with fail
  refine HN.out.mono ?_
  rintro r w1 ⟨q, rfl, hs1⟩
  have HS1 := Lib.hid hs1; clear hs1
  go_wp2_with fail
  have h2 := tput_all HS1.out ⟨#[98]⟩ 2 (by simp)
  rw [wk1] at h2
  refine h2.mono ?_
  rintro r w2 ⟨rfl, hs2⟩
  have HS2 := Lib.hid hs2; clear hs2 h2
  go_wp2_with fail
  have h3 := tput_all HS2.out ⟨#[97]⟩ 1 (by simp)
  rw [wk2] at h3
  refine h3.mono ?_
  rintro r w3 ⟨rfl, hs3⟩
  have HS3 := Lib.hid hs3; clear hs3 h3
  go_wp2_with fail
  have h4 := tput_all HS3.out ⟨#[99]⟩ 3 (by simp)
  rw [wk3] at h4
  refine h4.mono ?_
  rintro r w4 ⟨rfl, hs4⟩
  have HS4 := Lib.hid hs4; clear hs4 h4
  go_wp2_with fail
  have h5 := range_any HS4.out.tree (by decide) ⟨#[]⟩ ⟨#[]⟩ 9
  rw [wk4] at h5
  refine h5.mono ?_
  rintro r w5 ⟨p, qq, rfl, hs5⟩
  have HT := Lib.hid (HS4.out.tree.only hs5.old)
  obtain ⟨_, rfl, a0, a1⟩ := keyCells hs5.row (j := 0) (e := (⟨#[97]⟩, 1)) rfl
  obtain ⟨_, he, b0, b1⟩ := keyCells hs5.row (j := 2) (e := (⟨#[99]⟩, 3)) rfl
  cases he
  have O5 := Lib.hid (HS4.out.old.trans hs5.old (Within.nil _ _))
  have hlen : wk.length = 3 := rfl
  rw [hlen]
  simp only [Nat.zero_mul, Nat.zero_add] at a0 a1 b0 b1
  clear hs5 h5 hlen
  go_wp2_with fail
  refine (len_any HT.out).mono ?_
  rintro r w6 ⟨rfl, rfl⟩
  rw [show ((wk.length : Nat) : Int) = 3 from rfl]
  go_wp2_with fail
  refine (depth_any HT.out (by decide)).mono ?_
  rintro r w7 ⟨⟨d, rfl, hd, hd2⟩, rfl⟩
  have hd1 : 1 ≤ d := (hd.2 (by decide)).1
  clear hd
  have hd3 : (1 : Int) ≤ (d : Int) := by omega
  go_wp2_with fail
  go_ret
  exact ⟨by first | rfl | simp [hd1], O5.out⟩

end Go.Proofs.Ytmhbiakcadabmaa
