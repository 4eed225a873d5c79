/-
  What is proved here: the statement KeyMakes: the key of any values, or that there is none, is the document's; for every input.
  No condition beyond the row's own (two tables of unicode/utf8 and the longest index are as the library lays them; they are not read).
-/
import Derived.Test.YtfnlgpngnknkmaaDoorKyO
import Derived.Test.YtfnlgpngnknkmaaDoorTie
import Derived.Test.YtfnlgpngnknkmaaDoorCards
import Derived.LaidMore
import Derived.Lay
import Derived.SevenTiedAt
import Derived.Stop.Joined
namespace Go.Proofs.YtfnlgpngnknkmaaDoor.keyMakes
open Go.ChangeShapes Go.WideShapes Go.ChangeAt Go.RowKit Go.Proofs.YtfnlgpngnknkmaaDoor Go.Proofs.YtfnlgpngnknkmaaDoor.F
set_option linter.unusedSimpArgs false
set_option linter.unusedVariables false
set_option linter.unusedVariables false

set_option maxRecDepth 100000 in
set_option maxHeartbeats 1000000 in
theorem walk (p : Option Addr) (l : List S45) (q : Nat) (w : World) (hl : l.length ≤ 9223372036854775807) (hq : l.length ≤ q) (hst : ValsAt w p l) (hn : In64 l) (hlo : Lo w) :
    Calls Tryd.prog 3 #[.slice p l.length q] w fun e w' => e = .returned (.bool true) ∧ Only [] w w' := by
  have HL := Lib.hid hl; clear hl
  have HQ := Lib.hid hq; clear hq
  have HST := Lib.hid hst; clear hst
  have HN := Lib.hid hn; clear hn
  have HLO := Lib.hid hlo; clear hlo
  cases hb : largeB l with
  | true =>
    have HB := Lib.hid hb; clear hb
    go_enter Tryd.func3, Tryd.ntmps3
    go_wp2_with fail
    refine (large_any p q l _ HST.out HQ.out HL.out).mono ?_
    rintro e w1 ⟨rfl, o1⟩
    have O1 := Lib.hid o1; clear o1
    rw [HB.out]
    go_wp2_with fail
    refine (wakes_any _ (HLO.out.only O1.out)).mono ?_
    rintro e w2 ⟨rfl, o2⟩
    have O2 := Lib.hid (O1.out.trans o2 (Within.nil _ _)); clear o2
    go_wp2_with fail
    go_ret
    exact ⟨rfl, O2.out⟩
  | false =>
    have HB := Lib.hid hb
    have hlen := (large_false hb).1
    clear hb
    go_enter Tryd.func3, Tryd.ntmps3
    go_wp2_with fail
    refine (large_any p q l _ HST.out HQ.out HL.out).mono ?_
    rintro e w1 ⟨rfl, o1⟩
    have O1 := Lib.hid o1; clear o1
    rw [HB.out]
    go_wp2_with fail
    refine (few_any p q l _ (HST.out.only O1.out) HQ.out (by omega)).mono ?_
    rintro e w2 ⟨p2, q2, rfl, hq2, hv2, o2⟩
    have O2 := Lib.hid (O1.out.trans o2 (Within.nil _ _)); clear o2
    have HQ2 := Lib.hid hq2; clear hq2
    have HV2 := Lib.hid hv2; clear hv2
    go_wp2_with fail
    refine (key_make_any p2 q2 l _ HV2.out (by omega) HN.out (HLO.out.only O2.out)).mono ?_
    rintro e w3 ⟨rfl, o3⟩
    have HV3 := Lib.hid (HV2.out.only o3); clear HV2
    have O3 := Lib.hid (O2.out.trans o3 (Within.nil _ _)); clear o3
    go_wp2_with fail
    refine (ref_make_any p q l _ (HST.out.only O3.out) HQ.out (by omega) HN.out).mono ?_
    rintro e w4 ⟨rfl, o4⟩
    have HV4 := Lib.hid (HV3.out.only o4); clear HV3
    have O4 := Lib.hid (O3.out.trans o4 (Within.nil _ _)); clear o4
    generalize makeS (l.map vd) = r
    go_wp2_with fail
    refine (values_any p2 p q2 q l _ HV4.out (HST.out.only O4.out) HQ2.out HQ.out (by omega)).mono ?_
    rintro e w5 ⟨rfl, o5⟩
    have O5 := Lib.hid (O4.out.trans o5 (Within.nil _ _)); clear o5
    go_wp2_with fail
    refine (wakes_any _ (HLO.out.only O5.out)).mono ?_
    rintro e w6 ⟨rfl, o6⟩
    have O6 := Lib.hid (O5.out.trans o6 (Within.nil _ _)); clear o6
    go_wp2_with fail
    go_ret
    exact ⟨rfl, O6.out⟩

set_option maxRecDepth 100000 in
theorem lifted (os : Os) (started : os.Started) (H : Type) (enc : TypeId × Value → H) :
    ReturnsInHanded {} Tryd.checked os 3 .any (fun w args => (Rows.keyMakesSpec.pre enc Tryd.prog Tryd.f3 Rows.keyMakesRow.domain false w args ∧ laidMetH Tryd.prog Rows.keyMakesRow.laid w) ∧ sizedMet enc Tryd.prog Tryd.f3 (OpenSpec.ofChange Rows.keyMakesSpec) false w args)
      (Rows.keyMakesSpec.post enc Tryd.prog Tryd.f3 false true false false) := by
  refine handed_door (C := Tryd.checked) (X := fun w _ => laidMetH Tryd.prog Rows.keyMakesRow.laid w) own started (by kernel_rfl) Tryd.func3
    (ChangeSpec.witness_shaped (enc := enc) (C := Tryd.checked) (os := os) (X := fun w _ => laidMetH Tryd.prog Rows.keyMakesRow.laid w) false (World.laidAll Tryd.prog os Rows.keyMakesRow.laid) #[.slice none 0 0] 8 (World.laidAll_os _ _ _)
      (World.shaped_of_ZipB (by kernel_rfl) (by kernel_rfl)) (by kernel_rfl) (by kernel_rfl) (by kernel_rfl)
      (by rw [MakeChecks.laidMetH_plain _ _ _ (by kernel_rfl)]; exact laidMet_laidAll _ (by kernel_rfl) (by kernel_rfl))) ?_
  intro W base args ds gs before hval0 hW hsh
  have hlo := lo_of_shape hsh
  clear hsh
  have hval : ∀ (j : Nat) t v, Tryd.f3.params[j]? = some t → args[j]? = some v → Value.okWide Tryd.prog W .any base t v := hval0
  have hW' := hW
  obtain ⟨pp, pq, hA0, hV, rfl, hfz, hnd⟩ := hW
  have hA : DataW.TrodAll enc Tryd.prog W 0 (fun _ => true) true Tryd.f3.params.toList args.toList ds pp := hA0
  rw [Tryd.params3] at hA hval
  obtain ⟨v0, vs0, d0, ds0, p0, q0, hargs, rfl, rfl, h0, r0⟩ := trodAll_cons hA
  obtain ⟨rfl, rfl, rfl⟩ := trodAll_nil r0
  obtain rfl : args = #[v0] := by cases args; simp_all
  obtain ⟨rfl, rfl⟩ := trodVars_none hV
  obtain ⟨sp0, sl0, sq0, rfl, hl0, hq0, hst0, hn0⟩ := open_vals (W := W) (v := v0) (by
    obtain ⟨a, len, cap, rfl⟩ := okWide_slice Tryd.underlying22 (hval 0 22 v0 rfl rfl)
    exact ⟨a, len, cap, rfl⟩) h0
  clear hA0 hval0
  simp only [List.append_nil] at hW'
  refine (walk sp0 sl0 sq0 W hl0 hq0 hst0 hn0 hlo).mono fun e W' ⟨he, hg⟩ => ?_
  subst he
  have hb : Below W.heap.size W W' := hg.below (Nat.le_refl _) (by simp)
  have hargs := (trodAll_cons_mk (Below.trod laidOut (by kernel_rfl) (of_decide_eq_true (by kernel_rfl)) h0 hb (fun x hx => hW'.lt x (by simp [hx]))) trodAll_mk0)
  simp only [List.append_nil] at hargs
  exact ⟨_, rfl, _, _, _, [], _, [], hW', trodAll_cons_mk (shut_bool Tryd.underlying4 _) trodAll_mk0, hargs, rfl, hb.frame _, fun h => by cases h⟩

theorem over : Rows.KeyMakesSaid :=
  OpenClaim.holds_of_wide 3 Tryd.f3 rfl rfl rfl rfl rfl rfl rfl ⟨rfl, rfl, rfl, rfl, rfl⟩ rfl rfl rfl rfl rfl (by kernel_rfl) Tryd.func3 (by kernel_rfl)
    (of_decide_eq_true (by kernel_rfl)) (by unfold Func.isWrapper; first | (rw [if_pos (by decide +kernel)]; kernel_rfl) | (rw [if_neg (by decide +kernel)]; exact ⟨rfl, rfl⟩))
    (fun os started H enc _ => lifted os started H enc)

theorem proved : Rows.KeyMakesCardSaid :=
  Claim7.holds_tied_plain_at .later [] [.data, .pinned] true Rows.keyMakesCard.stood.harness false over (fun _ h => by cases h) (by kernel_rfl) (fun _ h => by cases h) keyMakes_row_tie rfl ⟨rfl, rfl⟩ (by kernel_rfl) rfl
    (fun f fn hf hfn => by
      obtain rfl : f = 3 := Option.some.inj ((show Tryd.prog.funcNamed "hedgerow/hedgerowlaw03.KeyMakes" = some 3 by kernel_rfl).symm.trans hf) |>.symm
      obtain rfl : fn = Tryd.f3 := (Option.some.inj (Tryd.func3.symm.trans hfn)).symm
      exact ⟨by kernel_rfl, fun j t ht => by
        rw [Tryd.params3] at ht
        have hm : t ∈ [22] := by simpa using Array.mem_of_getElem? ht
        have hall : ([22].all fun u => !Tryd.prog.wantsStandIn u) = true := by kernel_rfl
        exact (show Tryd.prog.wantsStandIn t = false by simpa using List.all_eq_true.1 hall t hm)⟩)
    (by kernel_rfl)
#print axioms proved
end Go.Proofs.YtfnlgpngnknkmaaDoor.keyMakes
