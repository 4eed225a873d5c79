/-
  What is proved here: the statement KeySplits: the values of any key, or that it is none, and the least text above all that begin with any, are the document's; for every input.
  No condition beyond the row's own (two tables of unicode/utf8 and the longest index are as the library lays them; they are not read).
-/
import Derived.Test.YtfnlgpngnknkmaaDoorKyH
import Derived.Test.YtfnlgpngnknkmaaDoorTie
import Derived.Test.YtfnlgpngnknkmaaDoorCards
import Derived.LaidMore
import Derived.Lay
import Derived.SevenTiedAt
import Derived.Stop.Joined
namespace Go.Proofs.YtfnlgpngnknkmaaDoor.keySplits
open Go.ChangeShapes Go.WideShapes Go.ChangeAt Go.RowKit Go.Proofs.YtfnlgpngnknkmaaDoor Go.Proofs.YtfnlgpngnknkmaaDoor.F
set_option linter.unusedVariables false
set_option linter.unusedSimpArgs false

set_option maxRecDepth 100000 in
set_option maxHeartbeats 1000000 in
theorem walk (s : ByteArray) (w : World) (hs : s.size ≤ maxLen) (hlo : Lo w) :
    Calls Tryd.prog 4 #[.string s] w fun e w' => e = .returned (.bool true) ∧ Only [] w w' := by
  have HLO := Lib.hid hlo; clear hlo
  by_cases hbig : 20000 < s.size
  · go_enter Tryd.func4, Tryd.ntmps4
    go_wp2_with fail
    refine (wakes_any _ HLO.out).mono ?_
    rintro e w1 ⟨rfl, o1⟩
    have O1 := Lib.hid o1; clear o1
    go_wp2_with fail
    go_ret
    exact ⟨rfl, O1.out⟩
  · have hsm : s.size ≤ 20000 := by omega
    clear hbig hs
    have HLEN := Lib.hid (splitS_len s)
    go_enter Tryd.func4, Tryd.ntmps4
    go_wp2_with fail
    refine (split_any s _ (by omega)).mono ?_
    rintro e w1 ⟨p, q, rfl, hs1⟩
    have HS1 := Lib.hid hs1.valsAt
    have HQ1 := Lib.hid hs1.cap
    have o1 := hs1.old
    clear hs1
    have O1 := Lib.hid o1; clear o1
    go_wp2_with fail
    refine (ref_split_any s _ (by omega)).mono ?_
    rintro e w2 ⟨p2, q2, rfl, hs2⟩
    have HS2 := Lib.hid hs2.valsAt
    have HQ2 := Lib.hid hs2.cap
    have o2 := hs2.old
    clear hs2
    have HS1 := Lib.hid (HS1.out.only o2)
    have O2 := Lib.hid (O1.out.trans o2 (Within.nil _ _)); clear o2
    generalize splitS s = r at HS1 HS2 HQ1 HQ2 HLEN
    go_wp2_with fail
    refine (values_any p p2 q q2 r.1 _ HS1.out HS2.out HQ1.out HQ2.out (by have := HLEN.out; omega)).mono ?_
    rintro e w3 ⟨rfl, o3⟩
    have HS1 := Lib.hid (HS1.out.only o3)
    have HS2 := Lib.hid (HS2.out.only o3)
    have O3 := Lib.hid (O2.out.trans o3 (Within.nil _ _)); clear o3
    go_wp2_with fail
    refine (after_any s _ (by omega)).mono ?_
    rintro e w4 ⟨rfl, o4⟩
    have HS1 := Lib.hid (HS1.out.only o4)
    have HS2 := Lib.hid (HS2.out.only o4)
    have O4 := Lib.hid (O3.out.trans o4 (Within.nil _ _)); clear o4
    go_wp2_with fail
    refine (ref_after_any s _ (by omega)).mono ?_
    rintro e w5 ⟨rfl, o5⟩
    have HS1 := Lib.hid (HS1.out.only o5)
    have HS2 := Lib.hid (HS2.out.only o5)
    have O5 := Lib.hid (O4.out.trans o5 (Within.nil _ _)); clear o5
    generalize afterB s = a
    go_wp2_with fail
    refine (wakes_any _ (HLO.out.only O5.out)).mono ?_
    rintro e w6 ⟨rfl, o6⟩
    have HS1 := Lib.hid (HS1.out.only o6)
    have HS2 := Lib.hid (HS2.out.only o6)
    have O6 := Lib.hid (O5.out.trans o6 (Within.nil _ _)); clear o6
    go_wp2_with fail
    go_ret
    exact ⟨rfl, O6.out⟩

set_option maxRecDepth 100000 in
theorem lifted (os : Os) (started : os.Started) (H : Type) (enc : TypeId × Value → H) :
    ReturnsInHanded {} Tryd.checked os 4 .any (fun w args => (Rows.keySplitsSpec.pre enc Tryd.prog Tryd.f4 Rows.keySplitsRow.domain false w args ∧ laidMetH Tryd.prog Rows.keySplitsRow.laid w) ∧ sizedMet enc Tryd.prog Tryd.f4 (OpenSpec.ofChange Rows.keySplitsSpec) false w args)
      (Rows.keySplitsSpec.post enc Tryd.prog Tryd.f4 false true false false) := by
  refine handed_door (C := Tryd.checked) (X := fun w _ => laidMetH Tryd.prog Rows.keySplitsRow.laid w) own started (by kernel_rfl) Tryd.func4
    (ChangeSpec.witness_shaped (enc := enc) (C := Tryd.checked) (os := os) (X := fun w _ => laidMetH Tryd.prog Rows.keySplitsRow.laid w) false (World.laidAll Tryd.prog os Rows.keySplitsRow.laid) #[.string ⟨#[]⟩] 8 (World.laidAll_os _ _ _)
      (World.shaped_of_ZipB (by kernel_rfl) (by kernel_rfl)) (by kernel_rfl) (by kernel_rfl) (by kernel_rfl)
      (by rw [MakeChecks.laidMetH_plain _ _ _ (by kernel_rfl)]; exact laidMet_laidAll _ (by kernel_rfl) (by kernel_rfl))) ?_
  intro W base args ds gs before hval0 hW hsh
  have hlo := lo_of_shape hsh
  clear hsh
  have hval : ∀ (j : Nat) t v, Tryd.f4.params[j]? = some t → args[j]? = some v → Value.okWide Tryd.prog W .any base t v := hval0
  have hW' := hW
  obtain ⟨pp, pq, hA0, hV, rfl, hfz, hnd⟩ := hW
  have hA : DataW.TrodAll enc Tryd.prog W 0 (fun _ => true) true Tryd.f4.params.toList args.toList ds pp := hA0
  rw [Tryd.params4] at hA hval
  obtain ⟨v0, vs0, d0, ds0, p0, q0, hargs, rfl, rfl, h0, r0⟩ := trodAll_cons hA
  obtain ⟨rfl, rfl, rfl⟩ := trodAll_nil r0
  obtain rfl : args = #[v0] := by cases args; simp_all
  obtain ⟨rfl, rfl⟩ := trodVars_none hV
  obtain ⟨s0, rfl, rfl, rfl, w0⟩ := Go.ChangeMaps.open_string Tryd.underlying9 (hval 0 9 v0 rfl rfl) h0
  clear hA0 hval0
  simp only [List.append_nil] at hW'
  refine (walk s0 W w0 hlo).mono fun e W' ⟨he, hg⟩ => ?_
  subst he
  have hb : Below W.heap.size W W' := hg.below (Nat.le_refl _) (by simp)
  exact ⟨_, rfl, _, _, _, [], _, [], hW', trodAll_cons_mk (shut_bool Tryd.underlying4 _) trodAll_mk0, (trodAll_cons_mk (Go.ChangeMaps.shut_string Tryd.underlying9 w0) trodAll_mk0), rfl, hb.frame _, fun h => by cases h⟩

theorem over : Rows.KeySplitsSaid :=
  OpenClaim.holds_of_wide 4 Tryd.f4 rfl rfl rfl rfl rfl rfl rfl ⟨rfl, rfl, rfl, rfl, rfl⟩ rfl rfl rfl rfl rfl (by kernel_rfl) Tryd.func4 (by kernel_rfl)
    (of_decide_eq_true (by kernel_rfl)) (by unfold Func.isWrapper; first | (rw [if_pos (by decide +kernel)]; kernel_rfl) | (rw [if_neg (by decide +kernel)]; exact ⟨rfl, rfl⟩))
    (fun os started H enc _ => lifted os started H enc)

theorem proved : Rows.KeySplitsCardSaid :=
  Claim7.holds_tied_plain_at .later [] [.data, .pinned] true Rows.keySplitsCard.stood.harness false over (fun _ h => by cases h) (by kernel_rfl) (fun _ h => by cases h) keySplits_row_tie rfl ⟨rfl, rfl⟩ (by kernel_rfl) rfl
    (fun f fn hf hfn => by
      obtain rfl : f = 4 := Option.some.inj ((show Tryd.prog.funcNamed "hedgerow/hedgerowlaw03.KeySplits" = some 4 by kernel_rfl).symm.trans hf) |>.symm
      obtain rfl : fn = Tryd.f4 := (Option.some.inj (Tryd.func4.symm.trans hfn)).symm
      exact ⟨by kernel_rfl, fun j t ht => by
        rw [Tryd.params4] at ht
        have hm : t ∈ [9] := by simpa using Array.mem_of_getElem? ht
        have hall : ([9].all fun u => !Tryd.prog.wantsStandIn u) = true := by kernel_rfl
        exact (show Tryd.prog.wantsStandIn t = false by simpa using List.all_eq_true.1 hall t hm)⟩)
    (by kernel_rfl)
#print axioms proved
end Go.Proofs.YtfnlgpngnknkmaaDoor.keySplits
