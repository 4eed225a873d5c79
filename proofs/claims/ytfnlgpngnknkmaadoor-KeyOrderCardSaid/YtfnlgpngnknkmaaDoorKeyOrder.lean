/-
  What is proved here: the statement KeyOrder: keys stand in the order of their values; for every input.
  No condition beyond the row's own (two tables of unicode/utf8 and the longest index are as the library lays them; they are not read).
-/
import Derived.Test.YtfnlgpngnknkmaaDoorKyH
import Derived.Test.YtfnlgpngnknkmaaDoorTie
import Derived.Test.YtfnlgpngnknkmaaDoorCards
import Derived.LaidMore
import Derived.Lay
import Derived.SevenTiedAt
import Derived.Stop.Joined
namespace Go.Proofs.YtfnlgpngnknkmaaDoor.keyOrder
open Go.ChangeShapes Go.WideShapes Go.ChangeAt Go.RowKit Go.Proofs.YtfnlgpngnknkmaaDoor Go.Proofs.YtfnlgpngnknkmaaDoor.F
set_option linter.unusedVariables false
set_option linter.unusedSimpArgs false

set_option maxRecDepth 100000 in
set_option maxHeartbeats 1000000 in
theorem walk (pa : Option Addr) (a : List S45) (qa : Nat) (pb : Option Addr) (b : List S45) (qb : Nat) (w : World) (hla : a.length ≤ 9223372036854775807) (hqa : a.length ≤ qa) (hsa : ValsAt w pa a) (hna : In64 a)
    (hlb : b.length ≤ 9223372036854775807) (hqb : b.length ≤ qb) (hsb : ValsAt w pb b) (hnb : In64 b) (hlo : Lo w) :
    Calls Tryd.prog 5 #[.slice pa a.length qa, .slice pb b.length qb] w fun e w' => e = .returned (.bool true) ∧ Only [] w w' := by
  have HLA := Lib.hid hla; clear hla
  have HQA := Lib.hid hqa; clear hqa
  have HSA := Lib.hid hsa; clear hsa
  have HNA := Lib.hid hna; clear hna
  have HLB := Lib.hid hlb; clear hlb
  have HQB := Lib.hid hqb; clear hqb
  have HSB := Lib.hid hsb; clear hsb
  have HNB := Lib.hid hnb; clear hnb
  have HLO := Lib.hid hlo; clear hlo
  cases ha : largeB a with
  | true =>
    have HA := Lib.hid ha; clear ha
    go_enter Tryd.func5, Tryd.ntmps5
    go_wp2_with fail
    refine (large_any pa qa a _ HSA.out HQA.out HLA.out).mono ?_
    rintro e w1 ⟨rfl, o1⟩
    have O1 := Lib.hid o1; clear o1
    rw [HA.out]
    go_wp2_with fail
    refine (wakes_any _ (HLO.out.only O1.out)).mono ?_
    rintro e w2 ⟨rfl, o2⟩
    have O2 := Lib.hid (O1.out.trans o2 (Within.nil _ _)); clear o2
    go_wp2_with fail
    go_ret
    exact ⟨rfl, O2.out⟩
  | false =>
    have hka := (large_false ha).1
    have HA := Lib.hid ha; clear ha
    cases hb : largeB b with
    | true =>
      have HB := Lib.hid hb; clear hb
      go_enter Tryd.func5, Tryd.ntmps5
      go_wp2_with fail
      refine (large_any pa qa a _ HSA.out HQA.out HLA.out).mono ?_
      rintro e w1 ⟨rfl, o1⟩
      have O1 := Lib.hid o1; clear o1
      rw [HA.out]
      go_wp2_with fail
      refine (large_any pb qb b _ (HSB.out.only O1.out) HQB.out HLB.out).mono ?_
      rintro e w2 ⟨rfl, o2⟩
      have O2 := Lib.hid (O1.out.trans o2 (Within.nil _ _)); clear o2
      rw [HB.out]
      go_wp2_with fail
      refine (wakes_any _ (HLO.out.only O2.out)).mono ?_
      rintro e w3 ⟨rfl, o3⟩
      have O3 := Lib.hid (O2.out.trans o3 (Within.nil _ _)); clear o3
      go_wp2_with fail
      go_ret
      exact ⟨rfl, O3.out⟩
    | false =>
      have hkb := (large_false hb).1
      have HB := Lib.hid hb; clear hb
      by_cases e1 : (makeS (a.map vd)).2 = 0
      · by_cases e2 : (makeS (b.map vd)).2 = 0
        · obtain ⟨g1, g2, g3⟩ := makeS_ok e1
          obtain ⟨g4, g5, g6⟩ := makeS_ok e2
          obtain ⟨c1, c2⟩ := cmp_key (a.map vd) (b.map vd) (good_of g1 HNA.out) (good_of g4 HNB.out)
          obtain ⟨S, hS⟩ : ∃ S, makeS (a.map vd) = (S, 0) := ⟨(makeS (a.map vd)).1, by rw [← e1]⟩
          obtain ⟨T, hT⟩ : ∃ T, makeS (b.map vd) = (T, 0) := ⟨(makeS (b.map vd)).1, by rw [← e2]⟩
          rw [hS] at g2
          rw [hT] at g5
          simp only at g2 g5
          have s1 : Op.bytesLess S.toList T.toList = decide (cmpL (a.map vd) (b.map vd) < 0) := by
            rw [Go.Proofs.bytesLess_eq, g2, g5, Lib.toList_data, Lib.toList_data]
            exact decide_eq_decide.2 c1
          have s2 : (S.toList == T.toList) = decide (cmpL (a.map vd) (b.map vd) = 0) := by
            rw [g2, g5, Lib.toList_data, Lib.toList_data, Bool.eq_iff_iff, beq_iff_eq, decide_eq_true_eq]
            exact c2
          have HS := Lib.hid hS
          have HT := Lib.hid hT
          clear e1 e2 g1 g2 g3 g4 g5 g6 c1 c2 hS hT
          obtain ⟨c, hc⟩ : ∃ c, cmpL (a.map vd) (b.map vd) = c := ⟨_, rfl⟩
          have HC := Lib.hid hc
          rw [hc] at s1 s2
          clear hc
          have S1 := Lib.hid s1
          have S2 := Lib.hid s2
          clear s1 s2
          go_enter Tryd.func5, Tryd.ntmps5
          go_wp2_with fail
          refine (large_any pa qa a _ HSA.out HQA.out HLA.out).mono ?_
          rintro e w1 ⟨rfl, o1⟩
          have O1 := Lib.hid o1; clear o1
          rw [HA.out]
          go_wp2_with fail
          refine (large_any pb qb b _ (HSB.out.only O1.out) HQB.out HLB.out).mono ?_
          rintro e w2 ⟨rfl, o2⟩
          have O2 := Lib.hid (O1.out.trans o2 (Within.nil _ _)); clear o2
          rw [HB.out]
          go_wp2_with fail
          refine (few_any pa qa a _ (HSA.out.only O2.out) HQA.out (by omega)).mono ?_
          rintro e w3 ⟨p3, q3, rfl, hq3, hv3, o3⟩
          have HV3 := Lib.hid hv3; clear hv3 hq3
          have O3 := Lib.hid (O2.out.trans o3 (Within.nil _ _)); clear o3
          go_wp2_with fail
          refine (key_make_any p3 q3 a _ HV3.out (by omega) HNA.out (HLO.out.only O3.out)).mono ?_
          rintro e w4 ⟨rfl, o4⟩
          have O4 := Lib.hid (O3.out.trans o4 (Within.nil _ _)); clear o4
          clear HV3
          go_wp2_with fail
          refine (few_any pb qb b _ (HSB.out.only O4.out) HQB.out (by omega)).mono ?_
          rintro e w5 ⟨p5, q5, rfl, hq5, hv5, o5⟩
          have HV5 := Lib.hid hv5; clear hv5 hq5
          have O5 := Lib.hid (O4.out.trans o5 (Within.nil _ _)); clear o5
          go_wp2_with fail
          refine (key_make_any p5 q5 b _ HV5.out (by omega) HNB.out (HLO.out.only O5.out)).mono ?_
          rintro e w6 ⟨rfl, o6⟩
          have O6 := Lib.hid (O5.out.trans o6 (Within.nil _ _)); clear o6
          clear HV5
          rw [HS.out, HT.out]
          go_wp2_with fail
          refine (cmp_any pa pb qa qb a b _ (HSA.out.only O6.out) (HSB.out.only O6.out) HQA.out HQB.out (by omega) (by omega)).mono ?_
          rintro e w7 ⟨rfl, o7⟩
          have O7 := Lib.hid (O6.out.trans o7 (Within.nil _ _)); clear o7
          rw [HC.out]
          have tri : c < 0 ∨ c = 0 ∨ 0 < c := by omega
          rcases tri with h | h | h
          · have s1 := S1.out
            have s2 := S2.out
            rw [decide_eq_true h] at s1
            rw [decide_eq_false (by omega)] at s2
            have e0 : (c == 0) = false := by rw [beq_eq_false_iff_ne]; omega
            have e1 : decide (c < 0) = true := decide_eq_true h
            go_wp2_with fail
            refine (wakes_any _ (HLO.out.only O7.out)).mono ?_
            rintro e w8 ⟨rfl, o8⟩
            have O8 := Lib.hid (O7.out.trans o8 (Within.nil _ _)); clear o8
            go_wp2_with fail
            go_ret
            exact ⟨rfl, O8.out⟩
          · subst h
            have s1 := S1.out
            have s2 := S2.out
            rw [decide_eq_false (by omega)] at s1
            rw [decide_eq_true rfl] at s2
            go_wp2_with fail
            refine (wakes_any _ (HLO.out.only O7.out)).mono ?_
            rintro e w8 ⟨rfl, o8⟩
            have O8 := Lib.hid (O7.out.trans o8 (Within.nil _ _)); clear o8
            go_wp2_with fail
            go_ret
            exact ⟨rfl, O8.out⟩
          · have s1 := S1.out
            have s2 := S2.out
            rw [decide_eq_false (by omega)] at s1
            rw [decide_eq_false (by omega)] at s2
            have e0 : (c == 0) = false := by rw [beq_eq_false_iff_ne]; omega
            have e1 : decide (c < 0) = false := decide_eq_false (by omega)
            go_wp2_with fail
            refine (wakes_any _ (HLO.out.only O7.out)).mono ?_
            rintro e w8 ⟨rfl, o8⟩
            have O8 := Lib.hid (O7.out.trans o8 (Within.nil _ _)); clear o8
            go_wp2_with fail
            go_ret
            exact ⟨rfl, O8.out⟩
        · obtain ⟨S, hS⟩ : ∃ S, makeS (a.map vd) = (S, 0) := ⟨(makeS (a.map vd)).1, by rw [← e1]⟩
          obtain ⟨T, n, hT⟩ : ∃ T n, makeS (b.map vd) = (T, n) := ⟨_, _, rfl⟩
          rw [hT] at e2
          simp only at e2
          have HS := Lib.hid hS
          have HT := Lib.hid hT
          clear hS hT e1
          have e3 : (n != 0) = true := by rw [bne_iff_ne]; exact e2
          go_enter Tryd.func5, Tryd.ntmps5
          go_wp2_with fail
          refine (large_any pa qa a _ HSA.out HQA.out HLA.out).mono ?_
          rintro e w1 ⟨rfl, o1⟩
          have O1 := Lib.hid o1; clear o1
          rw [HA.out]
          go_wp2_with fail
          refine (large_any pb qb b _ (HSB.out.only O1.out) HQB.out HLB.out).mono ?_
          rintro e w2 ⟨rfl, o2⟩
          have O2 := Lib.hid (O1.out.trans o2 (Within.nil _ _)); clear o2
          rw [HB.out]
          go_wp2_with fail
          refine (few_any pa qa a _ (HSA.out.only O2.out) HQA.out (by omega)).mono ?_
          rintro e w3 ⟨p3, q3, rfl, hq3, hv3, o3⟩
          have HV3 := Lib.hid hv3; clear hv3 hq3
          have O3 := Lib.hid (O2.out.trans o3 (Within.nil _ _)); clear o3
          go_wp2_with fail
          refine (key_make_any p3 q3 a _ HV3.out (by omega) HNA.out (HLO.out.only O3.out)).mono ?_
          rintro e w4 ⟨rfl, o4⟩
          have O4 := Lib.hid (O3.out.trans o4 (Within.nil _ _)); clear o4
          clear HV3
          go_wp2_with fail
          refine (few_any pb qb b _ (HSB.out.only O4.out) HQB.out (by omega)).mono ?_
          rintro e w5 ⟨p5, q5, rfl, hq5, hv5, o5⟩
          have HV5 := Lib.hid hv5; clear hv5 hq5
          have O5 := Lib.hid (O4.out.trans o5 (Within.nil _ _)); clear o5
          go_wp2_with fail
          refine (key_make_any p5 q5 b _ HV5.out (by omega) HNB.out (HLO.out.only O5.out)).mono ?_
          rintro e w6 ⟨rfl, o6⟩
          have O6 := Lib.hid (O5.out.trans o6 (Within.nil _ _)); clear o6
          clear HV5
          rw [HS.out, HT.out]
          go_wp2_with fail
          refine (wakes_any _ (HLO.out.only O6.out)).mono ?_
          rintro e w7 ⟨rfl, o7⟩
          have O7 := Lib.hid (O6.out.trans o7 (Within.nil _ _)); clear o7
          go_wp2_with fail
          go_ret
          exact ⟨rfl, O7.out⟩
      · obtain ⟨S, n, hS⟩ : ∃ S n, makeS (a.map vd) = (S, n) := ⟨_, _, rfl⟩
        rw [hS] at e1
        simp only at e1
        have HS := Lib.hid hS
        clear hS
        have e3 : (n != 0) = true := by rw [bne_iff_ne]; exact e1
        go_enter Tryd.func5, Tryd.ntmps5
        go_wp2_with fail
        refine (large_any pa qa a _ HSA.out HQA.out HLA.out).mono ?_
        rintro e w1 ⟨rfl, o1⟩
        have O1 := Lib.hid o1; clear o1
        rw [HA.out]
        go_wp2_with fail
        refine (large_any pb qb b _ (HSB.out.only O1.out) HQB.out HLB.out).mono ?_
        rintro e w2 ⟨rfl, o2⟩
        have O2 := Lib.hid (O1.out.trans o2 (Within.nil _ _)); clear o2
        rw [HB.out]
        go_wp2_with fail
        refine (few_any pa qa a _ (HSA.out.only O2.out) HQA.out (by omega)).mono ?_
        rintro e w3 ⟨p3, q3, rfl, hq3, hv3, o3⟩
        have HV3 := Lib.hid hv3; clear hv3 hq3
        have O3 := Lib.hid (O2.out.trans o3 (Within.nil _ _)); clear o3
        go_wp2_with fail
        refine (key_make_any p3 q3 a _ HV3.out (by omega) HNA.out (HLO.out.only O3.out)).mono ?_
        rintro e w4 ⟨rfl, o4⟩
        have O4 := Lib.hid (O3.out.trans o4 (Within.nil _ _)); clear o4
        clear HV3
        go_wp2_with fail
        refine (few_any pb qb b _ (HSB.out.only O4.out) HQB.out (by omega)).mono ?_
        rintro e w5 ⟨p5, q5, rfl, hq5, hv5, o5⟩
        have HV5 := Lib.hid hv5; clear hv5 hq5
        have O5 := Lib.hid (O4.out.trans o5 (Within.nil _ _)); clear o5
        go_wp2_with fail
        refine (key_make_any p5 q5 b _ HV5.out (by omega) HNB.out (HLO.out.only O5.out)).mono ?_
        rintro e w6 ⟨rfl, o6⟩
        have O6 := Lib.hid (O5.out.trans o6 (Within.nil _ _)); clear o6
        clear HV5
        rw [HS.out]
        generalize makeS (b.map vd) = r
        go_wp2_with fail
        refine (wakes_any _ (HLO.out.only O6.out)).mono ?_
        rintro e w7 ⟨rfl, o7⟩
        have O7 := Lib.hid (O6.out.trans o7 (Within.nil _ _)); clear o7
        go_wp2_with fail
        go_ret
        exact ⟨rfl, O7.out⟩

set_option maxRecDepth 100000 in
theorem lifted (os : Os) (started : os.Started) (H : Type) (enc : TypeId × Value → H) :
    ReturnsInHanded {} Tryd.checked os 5 .any (fun w args => (Rows.keyOrderSpec.pre enc Tryd.prog Tryd.f5 Rows.keyOrderRow.domain false w args ∧ laidMetH Tryd.prog Rows.keyOrderRow.laid w) ∧ sizedMet enc Tryd.prog Tryd.f5 (OpenSpec.ofChange Rows.keyOrderSpec) false w args)
      (Rows.keyOrderSpec.post enc Tryd.prog Tryd.f5 false true false false) := by
  refine handed_door (C := Tryd.checked) (X := fun w _ => laidMetH Tryd.prog Rows.keyOrderRow.laid w) own started (by kernel_rfl) Tryd.func5
    (ChangeSpec.witness_shaped (enc := enc) (C := Tryd.checked) (os := os) (X := fun w _ => laidMetH Tryd.prog Rows.keyOrderRow.laid w) false (World.laidAll Tryd.prog os Rows.keyOrderRow.laid) #[.slice none 0 0, .slice none 0 0] 8 (World.laidAll_os _ _ _)
      (World.shaped_of_ZipB (by kernel_rfl) (by kernel_rfl)) (by kernel_rfl) (by kernel_rfl) (by kernel_rfl)
      (by rw [MakeChecks.laidMetH_plain _ _ _ (by kernel_rfl)]; exact laidMet_laidAll _ (by kernel_rfl) (by kernel_rfl))) ?_
  intro W base args ds gs before hval0 hW hsh
  have hlo := lo_of_shape hsh
  clear hsh
  have hval : ∀ (j : Nat) t v, Tryd.f5.params[j]? = some t → args[j]? = some v → Value.okWide Tryd.prog W .any base t v := hval0
  have hW' := hW
  obtain ⟨pp, pq, hA0, hV, rfl, hfz, hnd⟩ := hW
  have hA : DataW.TrodAll enc Tryd.prog W 0 (fun _ => true) true Tryd.f5.params.toList args.toList ds pp := hA0
  rw [Tryd.params5] at hA hval
  obtain ⟨v0, vs0, d0, ds0, p0, q0, hargs, rfl, rfl, h0, r0⟩ := trodAll_cons hA
  obtain ⟨v1, vs1, d1, ds1, p1, q1, rfl, rfl, rfl, h1, r1⟩ := trodAll_cons r0
  obtain ⟨rfl, rfl, rfl⟩ := trodAll_nil r1
  obtain rfl : args = #[v0, v1] := by cases args; simp_all
  obtain ⟨rfl, rfl⟩ := trodVars_none hV
  obtain ⟨sp0, sl0, sq0, rfl, hl0, hq0, hst0, hn0⟩ := open_vals (W := W) (v := v0) (by
    obtain ⟨a, len, cap, rfl⟩ := okWide_slice Tryd.underlying22 (hval 0 22 v0 rfl rfl)
    exact ⟨a, len, cap, rfl⟩) h0
  obtain ⟨sp1, sl1, sq1, rfl, hl1, hq1, hst1, hn1⟩ := open_vals (W := W) (v := v1) (by
    obtain ⟨a, len, cap, rfl⟩ := okWide_slice Tryd.underlying22 (hval 1 22 v1 rfl rfl)
    exact ⟨a, len, cap, rfl⟩) h1
  clear hA0 hval0
  simp only [List.append_nil] at hW'
  refine (walk sp0 sl0 sq0 sp1 sl1 sq1 W hl0 hq0 hst0 hn0 hl1 hq1 hst1 hn1 hlo).mono fun e W' ⟨he, hg⟩ => ?_
  subst he
  have hb : Below W.heap.size W W' := hg.below (Nat.le_refl _) (by simp)
  have hargs := (trodAll_cons_mk (Below.trod laidOut (by kernel_rfl) (of_decide_eq_true (by kernel_rfl)) h0 hb (fun x hx => hW'.lt x (by simp [hx]))) (trodAll_cons_mk (Below.trod laidOut (by kernel_rfl) (of_decide_eq_true (by kernel_rfl)) h1 hb (fun x hx => hW'.lt x (by simp [hx]))) trodAll_mk0))
  simp only [List.append_nil] at hargs
  exact ⟨_, rfl, _, _, _, [], _, [], hW', trodAll_cons_mk (shut_bool Tryd.underlying4 _) trodAll_mk0, hargs, rfl, hb.frame _, fun h => by cases h⟩

theorem over : Rows.KeyOrderSaid :=
  OpenClaim.holds_of_wide 5 Tryd.f5 rfl rfl rfl rfl rfl rfl rfl ⟨rfl, rfl, rfl, rfl, rfl⟩ rfl rfl rfl rfl rfl (by kernel_rfl) Tryd.func5 (by kernel_rfl)
    (of_decide_eq_true (by kernel_rfl)) (by unfold Func.isWrapper; first | (rw [if_pos (by decide +kernel)]; kernel_rfl) | (rw [if_neg (by decide +kernel)]; exact ⟨rfl, rfl⟩))
    (fun os started H enc _ => lifted os started H enc)

theorem proved : Rows.KeyOrderCardSaid :=
  Claim7.holds_tied_plain_at .later [] [.data, .pinned] true Rows.keyOrderCard.stood.harness false over (fun _ h => by cases h) (by kernel_rfl) (fun _ h => by cases h) keyOrder_row_tie rfl ⟨rfl, rfl⟩ (by kernel_rfl) rfl
    (fun f fn hf hfn => by
      obtain rfl : f = 5 := Option.some.inj ((show Tryd.prog.funcNamed "hedgerow/hedgerowlaw03.KeyOrder" = some 5 by kernel_rfl).symm.trans hf) |>.symm
      obtain rfl : fn = Tryd.f5 := (Option.some.inj (Tryd.func5.symm.trans hfn)).symm
      exact ⟨by kernel_rfl, fun j t ht => by
        rw [Tryd.params5] at ht
        have hm : t ∈ [22] := by simpa using Array.mem_of_getElem? ht
        have hall : ([22].all fun u => !Tryd.prog.wantsStandIn u) = true := by kernel_rfl
        exact (show Tryd.prog.wantsStandIn t = false by simpa using List.all_eq_true.1 hall t hm)⟩)
    (by kernel_rfl)
#print axioms proved
end Go.Proofs.YtfnlgpngnknkmaaDoor.keyOrder
