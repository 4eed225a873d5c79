/-
  What is proved here: the document's Take, where it changes nothing.
  No condition: each lemma names its own.
-/
import Derived.Test.YtipfjjcokajjjaaDoorRfD
set_option linter.unusedVariables false
set_option linter.unusedSimpArgs false
namespace Go.Proofs.YtipfjjcokajjjaaDoor
open Go.RowKit

set_option maxRecDepth 100000 in
theorem rtake_bad (b : Nat) (h : Int) (n : ByteArray) (m : Int) (W : World) (hbad : h < 1 ∨ 1000 < h ∨ 64 < n.size ∨ m < 1 ∨ 2 < m) :
    Calls Tryd.prog 14 #[.pointer (some ⟨b, 0, none⟩), .int .i64 h, .string n, .int .i64 m] W fun e W' => e = .returned (.int .i64 1) ∧ W = W' := by
  by_cases a1 : h < 1
  · clear hbad
    go_enter Tryd.func14, Tryd.ntmps14
    go_wp2_with fail
    go_ret
    exact ⟨rfl, rfl⟩
  by_cases a2 : 1000 < h
  · clear hbad
    go_enter Tryd.func14, Tryd.ntmps14
    go_wp2_with fail
    go_ret
    exact ⟨rfl, rfl⟩
  by_cases a3 : 64 < n.size
  · have a3' : (64 : Int) < (n.size : Int) := by omega
    clear hbad
    go_enter Tryd.func14, Tryd.ntmps14
    go_wp2_with fail
    go_ret
    exact ⟨rfl, rfl⟩
  have a3' : ¬ (64 : Int) < (n.size : Int) := by omega
  by_cases a4 : m < 1
  · clear hbad
    go_enter Tryd.func14, Tryd.ntmps14
    go_wp2_with fail
    go_ret
    exact ⟨rfl, rfl⟩
  have a5 : 2 < m := by omega
  clear hbad
  go_enter Tryd.func14, Tryd.ntmps14
  go_wp2_with fail
  go_ret
  exact ⟨rfl, rfl⟩

set_option maxRecDepth 100000 in
set_option maxHeartbeats 1000000 in
theorem rtake_stays {w W : World} {L : List Res} {b : Nat} {t : Tab} (hg : Good t) (h : Int) (n : ByteArray) (want : Int) (ha : ¬ (h < 1 ∨ 1000 < h ∨ 64 < n.size ∨ want < 1 ∨ 2 < want)) (hs : Sep w W (refRes b t :: L))
    (hst : (waitsM t h).isSome = true ∨ want ≤ modeM t h n ∨ (getT t n = none ∧ t.length = 256)) :
    Calls Tryd.prog 14 #[.pointer (some ⟨b, 0, none⟩), .int .i64 h, .string n, .int .i64 want] W fun e W' => e = .returned (.int .i64 (takeM t h n want).1) ∧ (takeM t h n want).2 = t ∧ W = W' := by
  have a1 : ¬ h < 1 := by omega
  have a2 : ¬ 1000 < h := by omega
  have a3 : ¬ (64 : Int) < (n.size : Int) := by omega
  have a4 : ¬ want < 1 := by omega
  have a5 : ¬ 2 < want := by omega
  have HW := Lib.hid (rWaits_any hg h hs)
  have HM := Lib.hid (rMode_any hg h n hs)
  cases hwt : waitsM t h with
  | some nw =>
    have hv : takeM t h n want = (161, t) := by unfold takeM; rw [if_neg ha, hwt]; rfl
    rw [hv]
    rw [hwt] at HW
    clear hs hst hv
    go_enter Tryd.func14, Tryd.ntmps14
    go_wp2_with (go_at_call 19; refine HW.out.mono ?_; rintro e w2 ⟨rfl, rfl⟩; simp only [Option.getD_some, Option.isSome_some])
    go_ret
    first | exact ⟨rfl, rfl⟩ | exact ⟨rfl, trivial, rfl⟩ | exact ⟨rfl, trivial, trivial⟩ | exact ⟨rfl, rfl, rfl⟩
  | none =>
    rw [hwt] at HW
    by_cases hm : want ≤ modeM t h n
    · have hv : takeM t h n want = (0, t) := by unfold takeM; rw [if_neg ha, hwt, if_neg (by simp), if_pos hm]
      rw [hv]
      obtain ⟨md, hmd⟩ : ∃ md, md = modeM t h n := ⟨_, rfl⟩
      rw [← hmd] at HM hm
      clear hs hst hv hmd
      go_enter Tryd.func14, Tryd.ntmps14
      go_wp2_with (first | (go_at_call 19; refine HW.out.mono ?_; rintro e w2 ⟨rfl, rfl⟩; simp only [Option.getD_none, Option.isSome_none]) | (go_at_call 21; refine HM.out.mono ?_; rintro e w2 ⟨rfl, rfl⟩))
      go_ret
      first | exact ⟨rfl, rfl⟩ | exact ⟨rfl, trivial, rfl⟩ | exact ⟨rfl, trivial, trivial⟩ | exact ⟨rfl, rfl, rfl⟩
    · have hgn : getT t n = none ∧ t.length = 256 := by
        rcases hst with q | q | q
        · rw [hwt] at q; cases q
        · exact absurd q hm
        · exact q
      have hv : takeM t h n want = (3, t) := by unfold takeM; rw [if_neg ha, hwt, if_neg (by simp), if_neg hm, if_pos hgn]
      rw [hv]
      have HF := Lib.hid (rfind_at hg.len (find_miss hg hgn.1) hs)
      obtain ⟨p, q, tv, hs0, _⟩ := ref_open hs
      have b0 := (ref_tab hs0).1
      rw [hgn.2] at b0
      obtain ⟨md, hmd⟩ : ∃ md, md = modeM t h n := ⟨_, rfl⟩
      rw [← hmd] at HM hm
      clear hs hs0 hst hv hgn hmd
      go_enter Tryd.func14, Tryd.ntmps14
      go_wp2_with (first | (go_at_call 19; refine HW.out.mono ?_; rintro e w2 ⟨rfl, rfl⟩; simp only [Option.getD_none, Option.isSome_none]) | (go_at_call 21; refine HM.out.mono ?_; rintro e w2 ⟨rfl, rfl⟩) | (go_at_call 32; refine HF.out.mono ?_; rintro e w2 ⟨rfl, rfl⟩))
      go_ret
      first | exact ⟨rfl, rfl⟩ | exact ⟨rfl, trivial, rfl⟩ | exact ⟨rfl, trivial, trivial⟩ | exact ⟨rfl, rfl, rfl⟩

end Go.Proofs.YtipfjjcokajjjaaDoor
