/-
  What is proved here: the statement KeyBack: the values of a key that was made are those that it was made of; a key that was split is made anew as it was; for every input.
  No condition beyond the row's own (two tables of unicode/utf8 and the longest index are as the library lays them; they are not read).
-/
import Derived.Test.YtfnlgpngnknkmaaDoorKyH
import Derived.Test.YtfnlgpngnknkmaaDoorTie
import Derived.Test.YtfnlgpngnknkmaaDoorCards
import Derived.LaidMore
import Derived.Lay
import Derived.SevenTiedAt
import Derived.Stop.Joined
namespace Go.Proofs.YtfnlgpngnknkmaaDoor.keyBack
open Go.ChangeShapes Go.WideShapes Go.ChangeAt Go.RowKit Go.Proofs.YtfnlgpngnknkmaaDoor Go.Proofs.YtfnlgpngnknkmaaDoor.F
set_option linter.unusedVariables false
set_option linter.unusedSimpArgs false

set_option maxRecDepth 100000 in
set_option maxHeartbeats 1000000 in
theorem walk (p : Option Addr) (l : List S45) (q : Nat) (s : ByteArray) (w : World) (hl : l.length ≤ 9223372036854775807) (hq : l.length ≤ q) (hst : ValsAt w p l) (hn : In64 l) (hs : s.size ≤ maxLen) (hlo : Lo w) :
    Calls Tryd.prog 6 #[.slice p l.length q, .string s] w fun e w' => e = .returned (.bool true) ∧ Only [] w w' := by
  have HL := Lib.hid hl; clear hl
  have HQ := Lib.hid hq; clear hq
  have HST := Lib.hid hst; clear hst
  have HN := Lib.hid hn; clear hn
  have HLO := Lib.hid hlo; clear hlo
  cases hb : largeB l with
  | true =>
    have HB := Lib.hid hb; clear hb hs
    go_enter Tryd.func6, Tryd.ntmps6
    go_wp2_with fail
    refine (large_any p q l _ HST.out HQ.out HL.out).mono ?_
    rintro e w1 ⟨rfl, o1⟩
    have O1 := Lib.hid o1; clear o1
    rw [HB.out]
    go_wp2_with fail
    refine (wakes_any _ (HLO.out.only O1.out)).mono ?_
    rintro e w2 ⟨rfl, o2⟩
    have O2 := Lib.hid (O1.out.trans o2 (Within.nil _ _)); clear o2
    go_wp2_with fail
    go_ret
    exact ⟨rfl, O2.out⟩
  | false =>
    have hk := (large_false hb).1
    have HB := Lib.hid hb; clear hb
    by_cases hbig : 20000 < s.size
    · clear hs
      go_enter Tryd.func6, Tryd.ntmps6
      go_wp2_with fail
      refine (large_any p q l _ HST.out HQ.out HL.out).mono ?_
      rintro e w1 ⟨rfl, o1⟩
      have O1 := Lib.hid o1; clear o1
      rw [HB.out]
      go_wp2_with fail
      refine (wakes_any _ (HLO.out.only O1.out)).mono ?_
      rintro e w2 ⟨rfl, o2⟩
      have O2 := Lib.hid (O1.out.trans o2 (Within.nil _ _)); clear o2
      go_wp2_with fail
      go_ret
      exact ⟨rfl, O2.out⟩
    · have hsm : s.size ≤ 20000 := by omega
      clear hbig hs
      have HLEN := Lib.hid (splitS_len s)
      by_cases e1 : (makeS (l.map vd)).2 = 0
      · obtain ⟨T, hT⟩ : ∃ T, makeS (l.map vd) = (T, 0) := ⟨(makeS (l.map vd)).1, by rw [← e1]⟩
        have hsp := split_made HN.out e1
        obtain ⟨_, g2, g3⟩ := makeS_ok e1
        rw [hT] at hsp g2
        simp only at hsp g2
        have hts : T.size ≤ 1000000 := by rw [g2, size_key]; omega
        have HM := Lib.hid hT
        have HT := Lib.hid hsp
        have HTS := Lib.hid hts
        clear hT hsp hts g2 g3 e1
        by_cases e2 : (splitS s).2 = 0
        · obtain ⟨h1, h2⟩ := made_split e2
          obtain ⟨xs, hxs⟩ : ∃ xs, splitS s = (xs, 0) := ⟨(splitS s).1, by rw [← e2]⟩
          rw [hxs] at h1 h2 HLEN
          have HX := Lib.hid hxs
          have H1 := Lib.hid h1
          have H2 := Lib.hid h2
          clear hxs h1 h2 e2
          go_enter Tryd.func6, Tryd.ntmps6
          go_wp2_with fail
          refine (large_any p q l _ HST.out HQ.out HL.out).mono ?_
          rintro e w1 ⟨rfl, o1⟩
          have O1 := Lib.hid o1; clear o1
          rw [HB.out]
          go_wp2_with fail
          refine (few_any p q l _ (HST.out.only O1.out) HQ.out (by omega)).mono ?_
          rintro e w2 ⟨p3, q3, rfl, hq3, hv3, o2⟩
          have HV3 := Lib.hid hv3; clear hv3 hq3
          have O2 := Lib.hid (O1.out.trans o2 (Within.nil _ _)); clear o2
          go_wp2_with fail
          refine (key_make_any p3 q3 l _ HV3.out (by omega) HN.out (HLO.out.only O2.out)).mono ?_
          rintro e w3 ⟨rfl, o3⟩
          have O3 := Lib.hid (O2.out.trans o3 (Within.nil _ _)); clear o3
          clear HV3
          rw [HM.out]
          go_wp2_with fail
          refine (split_any T _ HTS.out).mono ?_
          rintro e w4 ⟨p4, q4, rfl, hs4⟩
          have HS4 := Lib.hid hs4.valsAt
          have HQ4 := Lib.hid hs4.cap
          have o4 := hs4.old
          clear hs4
          rw [HT.out] at HS4 HQ4 ⊢
          have O4 := Lib.hid (O3.out.trans o4 (Within.nil _ _)); clear o4
          go_wp2_with fail
          refine (values_any p4 p q4 q l _ HS4.out (HST.out.only O4.out) HQ4.out HQ.out (by omega)).mono ?_
          rintro e w5 ⟨rfl, o5⟩
          have O5 := Lib.hid (O4.out.trans o5 (Within.nil _ _)); clear o5
          clear HS4
          go_wp2_with fail
          refine (split_any s _ (by omega)).mono ?_
          rintro e w6 ⟨p6, q6, rfl, hs6⟩
          have HS6 := Lib.hid hs6.valsAt
          have o6 := hs6.old
          clear hs6
          rw [HX.out] at HS6 ⊢
          have O6 := Lib.hid (O5.out.trans o6 (Within.nil _ _)); clear o6
          go_wp2_with fail
          refine (key_make_any p6 q6 xs _ HS6.out (by exact Nat.le_trans HLEN.out (by omega)) H1.out (HLO.out.only O6.out)).mono ?_
          rintro e w7 ⟨rfl, o7⟩
          have O7 := Lib.hid (O6.out.trans o7 (Within.nil _ _)); clear o7
          rw [H2.out]
          go_wp2_with fail
          refine (wakes_any _ (HLO.out.only O7.out)).mono ?_
          rintro e w8 ⟨rfl, o8⟩
          have O8 := Lib.hid (O7.out.trans o8 (Within.nil _ _)); clear o8
          go_wp2_with fail
          go_ret
          exact ⟨rfl, O8.out⟩
        · have h1 := split_not e2
          obtain ⟨n, hxs⟩ : ∃ n, splitS s = ([], n) := ⟨(splitS s).2, by rw [← h1]⟩
          rw [hxs] at e2
          simp only at e2
          have e3 : (n != 0) = true := by rw [bne_iff_ne]; exact e2
          have HX := Lib.hid hxs
          clear hxs h1 HLEN
          go_enter Tryd.func6, Tryd.ntmps6
          go_wp2_with fail
          refine (large_any p q l _ HST.out HQ.out HL.out).mono ?_
          rintro e w1 ⟨rfl, o1⟩
          have O1 := Lib.hid o1; clear o1
          rw [HB.out]
          go_wp2_with fail
          refine (few_any p q l _ (HST.out.only O1.out) HQ.out (by omega)).mono ?_
          rintro e w2 ⟨p3, q3, rfl, hq3, hv3, o2⟩
          have HV3 := Lib.hid hv3; clear hv3 hq3
          have O2 := Lib.hid (O1.out.trans o2 (Within.nil _ _)); clear o2
          go_wp2_with fail
          refine (key_make_any p3 q3 l _ HV3.out (by omega) HN.out (HLO.out.only O2.out)).mono ?_
          rintro e w3 ⟨rfl, o3⟩
          have O3 := Lib.hid (O2.out.trans o3 (Within.nil _ _)); clear o3
          clear HV3
          rw [HM.out]
          go_wp2_with fail
          refine (split_any T _ HTS.out).mono ?_
          rintro e w4 ⟨p4, q4, rfl, hs4⟩
          have HS4 := Lib.hid hs4.valsAt
          have HQ4 := Lib.hid hs4.cap
          have o4 := hs4.old
          clear hs4
          rw [HT.out] at HS4 HQ4 ⊢
          have O4 := Lib.hid (O3.out.trans o4 (Within.nil _ _)); clear o4
          go_wp2_with fail
          refine (values_any p4 p q4 q l _ HS4.out (HST.out.only O4.out) HQ4.out HQ.out (by omega)).mono ?_
          rintro e w5 ⟨rfl, o5⟩
          have O5 := Lib.hid (O4.out.trans o5 (Within.nil _ _)); clear o5
          clear HS4
          go_wp2_with fail
          refine (split_any s _ (by omega)).mono ?_
          rintro e w6 ⟨p6, q6, rfl, hs6⟩
          have o6 := hs6.old
          clear hs6
          rw [HX.out]
          have O6 := Lib.hid (O5.out.trans o6 (Within.nil _ _)); clear o6
          go_wp2_with fail
          refine (wakes_any _ (HLO.out.only O6.out)).mono ?_
          rintro e w7 ⟨rfl, o7⟩
          have O7 := Lib.hid (O6.out.trans o7 (Within.nil _ _)); clear o7
          go_wp2_with fail
          go_ret
          exact ⟨rfl, O7.out⟩
      · obtain ⟨T, n, hT⟩ : ∃ T n, makeS (l.map vd) = (T, n) := ⟨_, _, rfl⟩
        rw [hT] at e1
        simp only at e1
        have e4 : (n == 0) = false := by rw [beq_eq_false_iff_ne]; exact e1
        have HM := Lib.hid hT
        clear hT
        by_cases e2 : (splitS s).2 = 0
        · obtain ⟨h1, h2⟩ := made_split e2
          obtain ⟨xs, hxs⟩ : ∃ xs, splitS s = (xs, 0) := ⟨(splitS s).1, by rw [← e2]⟩
          rw [hxs] at h1 h2 HLEN
          have HX := Lib.hid hxs
          have H1 := Lib.hid h1
          have H2 := Lib.hid h2
          clear hxs h1 h2 e2
          go_enter Tryd.func6, Tryd.ntmps6
          go_wp2_with fail
          refine (large_any p q l _ HST.out HQ.out HL.out).mono ?_
          rintro e w1 ⟨rfl, o1⟩
          have O1 := Lib.hid o1; clear o1
          rw [HB.out]
          go_wp2_with fail
          refine (few_any p q l _ (HST.out.only O1.out) HQ.out (by omega)).mono ?_
          rintro e w2 ⟨p3, q3, rfl, hq3, hv3, o2⟩
          have HV3 := Lib.hid hv3; clear hv3 hq3
          have O2 := Lib.hid (O1.out.trans o2 (Within.nil _ _)); clear o2
          go_wp2_with fail
          refine (key_make_any p3 q3 l _ HV3.out (by omega) HN.out (HLO.out.only O2.out)).mono ?_
          rintro e w3 ⟨rfl, o3⟩
          have O3 := Lib.hid (O2.out.trans o3 (Within.nil _ _)); clear o3
          clear HV3
          rw [HM.out]
          go_wp2_with fail
          refine (split_any s _ (by omega)).mono ?_
          rintro e w4 ⟨p6, q6, rfl, hs6⟩
          have HS6 := Lib.hid hs6.valsAt
          have o4 := hs6.old
          clear hs6
          rw [HX.out] at HS6 ⊢
          have O4 := Lib.hid (O3.out.trans o4 (Within.nil _ _)); clear o4
          go_wp2_with fail
          refine (key_make_any p6 q6 xs _ HS6.out (by exact Nat.le_trans HLEN.out (by omega)) H1.out (HLO.out.only O4.out)).mono ?_
          rintro e w5 ⟨rfl, o5⟩
          have O5 := Lib.hid (O4.out.trans o5 (Within.nil _ _)); clear o5
          rw [H2.out]
          go_wp2_with fail
          refine (wakes_any _ (HLO.out.only O5.out)).mono ?_
          rintro e w6 ⟨rfl, o6⟩
          have O6 := Lib.hid (O5.out.trans o6 (Within.nil _ _)); clear o6
          go_wp2_with fail
          go_ret
          exact ⟨rfl, O6.out⟩
        · have h1 := split_not e2
          obtain ⟨m, hxs⟩ : ∃ m, splitS s = ([], m) := ⟨(splitS s).2, by rw [← h1]⟩
          rw [hxs] at e2
          simp only at e2
          have e3 : (m != 0) = true := by rw [bne_iff_ne]; exact e2
          have HX := Lib.hid hxs
          clear hxs h1 HLEN
          go_enter Tryd.func6, Tryd.ntmps6
          go_wp2_with fail
          refine (large_any p q l _ HST.out HQ.out HL.out).mono ?_
          rintro e w1 ⟨rfl, o1⟩
          have O1 := Lib.hid o1; clear o1
          rw [HB.out]
          go_wp2_with fail
          refine (few_any p q l _ (HST.out.only O1.out) HQ.out (by omega)).mono ?_
          rintro e w2 ⟨p3, q3, rfl, hq3, hv3, o2⟩
          have HV3 := Lib.hid hv3; clear hv3 hq3
          have O2 := Lib.hid (O1.out.trans o2 (Within.nil _ _)); clear o2
          go_wp2_with fail
          refine (key_make_any p3 q3 l _ HV3.out (by omega) HN.out (HLO.out.only O2.out)).mono ?_
          rintro e w3 ⟨rfl, o3⟩
          have O3 := Lib.hid (O2.out.trans o3 (Within.nil _ _)); clear o3
          clear HV3
          rw [HM.out]
          go_wp2_with fail
          refine (split_any s _ (by omega)).mono ?_
          rintro e w4 ⟨p6, q6, rfl, hs6⟩
          have o4 := hs6.old
          clear hs6
          rw [HX.out]
          have O4 := Lib.hid (O3.out.trans o4 (Within.nil _ _)); clear o4
          go_wp2_with fail
          refine (wakes_any _ (HLO.out.only O4.out)).mono ?_
          rintro e w5 ⟨rfl, o5⟩
          have O5 := Lib.hid (O4.out.trans o5 (Within.nil _ _)); clear o5
          go_wp2_with fail
          go_ret
          exact ⟨rfl, O5.out⟩

set_option maxRecDepth 100000 in
theorem lifted (os : Os) (started : os.Started) (H : Type) (enc : TypeId × Value → H) :
    ReturnsInHanded {} Tryd.checked os 6 .any (fun w args => (Rows.keyBackSpec.pre enc Tryd.prog Tryd.f6 Rows.keyBackRow.domain false w args ∧ laidMetH Tryd.prog Rows.keyBackRow.laid w) ∧ sizedMet enc Tryd.prog Tryd.f6 (OpenSpec.ofChange Rows.keyBackSpec) false w args)
      (Rows.keyBackSpec.post enc Tryd.prog Tryd.f6 false true false false) := by
  refine handed_door (C := Tryd.checked) (X := fun w _ => laidMetH Tryd.prog Rows.keyBackRow.laid w) own started (by kernel_rfl) Tryd.func6
    (ChangeSpec.witness_shaped (enc := enc) (C := Tryd.checked) (os := os) (X := fun w _ => laidMetH Tryd.prog Rows.keyBackRow.laid w) false (World.laidAll Tryd.prog os Rows.keyBackRow.laid) #[.slice none 0 0, .string ⟨#[]⟩] 8 (World.laidAll_os _ _ _)
      (World.shaped_of_ZipB (by kernel_rfl) (by kernel_rfl)) (by kernel_rfl) (by kernel_rfl) (by kernel_rfl)
      (by rw [MakeChecks.laidMetH_plain _ _ _ (by kernel_rfl)]; exact laidMet_laidAll _ (by kernel_rfl) (by kernel_rfl))) ?_
  intro W base args ds gs before hval0 hW hsh
  have hlo := lo_of_shape hsh
  clear hsh
  have hval : ∀ (j : Nat) t v, Tryd.f6.params[j]? = some t → args[j]? = some v → Value.okWide Tryd.prog W .any base t v := hval0
  have hW' := hW
  obtain ⟨pp, pq, hA0, hV, rfl, hfz, hnd⟩ := hW
  have hA : DataW.TrodAll enc Tryd.prog W 0 (fun _ => true) true Tryd.f6.params.toList args.toList ds pp := hA0
  rw [Tryd.params6] at hA hval
  obtain ⟨v0, vs0, d0, ds0, p0, q0, hargs, rfl, rfl, h0, r0⟩ := trodAll_cons hA
  obtain ⟨v1, vs1, d1, ds1, p1, q1, rfl, rfl, rfl, h1, r1⟩ := trodAll_cons r0
  obtain ⟨rfl, rfl, rfl⟩ := trodAll_nil r1
  obtain rfl : args = #[v0, v1] := by cases args; simp_all
  obtain ⟨rfl, rfl⟩ := trodVars_none hV
  obtain ⟨sp0, sl0, sq0, rfl, hl0, hq0, hst0, hn0⟩ := open_vals (W := W) (v := v0) (by
    obtain ⟨a, len, cap, rfl⟩ := okWide_slice Tryd.underlying22 (hval 0 22 v0 rfl rfl)
    exact ⟨a, len, cap, rfl⟩) h0
  obtain ⟨s1, rfl, rfl, rfl, w1⟩ := Go.ChangeMaps.open_string Tryd.underlying9 (hval 1 9 v1 rfl rfl) h1
  clear hA0 hval0
  simp only [List.append_nil] at hW'
  refine (walk sp0 sl0 sq0 s1 W hl0 hq0 hst0 hn0 w1 hlo).mono fun e W' ⟨he, hg⟩ => ?_
  subst he
  have hb : Below W.heap.size W W' := hg.below (Nat.le_refl _) (by simp)
  have hargs := (trodAll_cons_mk (Below.trod laidOut (by kernel_rfl) (of_decide_eq_true (by kernel_rfl)) h0 hb (fun x hx => hW'.lt x (by simp [hx]))) (trodAll_cons_mk (Go.ChangeMaps.shut_string Tryd.underlying9 w1) trodAll_mk0))
  simp only [List.append_nil] at hargs
  exact ⟨_, rfl, _, _, _, [], _, [], hW', trodAll_cons_mk (shut_bool Tryd.underlying4 _) trodAll_mk0, hargs, rfl, hb.frame _, fun h => by cases h⟩

theorem over : Rows.KeyBackSaid :=
  OpenClaim.holds_of_wide 6 Tryd.f6 rfl rfl rfl rfl rfl rfl rfl ⟨rfl, rfl, rfl, rfl, rfl⟩ rfl rfl rfl rfl rfl (by kernel_rfl) Tryd.func6 (by kernel_rfl)
    (of_decide_eq_true (by kernel_rfl)) (by unfold Func.isWrapper; first | (rw [if_pos (by decide +kernel)]; kernel_rfl) | (rw [if_neg (by decide +kernel)]; exact ⟨rfl, rfl⟩))
    (fun os started H enc _ => lifted os started H enc)

theorem proved : Rows.KeyBackCardSaid :=
  Claim7.holds_tied_plain_at .later [] [.data, .pinned] true Rows.keyBackCard.stood.harness false over (fun _ h => by cases h) (by kernel_rfl) (fun _ h => by cases h) keyBack_row_tie rfl ⟨rfl, rfl⟩ (by kernel_rfl) rfl
    (fun f fn hf hfn => by
      obtain rfl : f = 6 := Option.some.inj ((show Tryd.prog.funcNamed "hedgerow/hedgerowlaw03.KeyBack" = some 6 by kernel_rfl).symm.trans hf) |>.symm
      obtain rfl : fn = Tryd.f6 := (Option.some.inj (Tryd.func6.symm.trans hfn)).symm
      exact ⟨by kernel_rfl, fun j t ht => by
        rw [Tryd.params6] at ht
        have hm : t ∈ [22, 9] := by simpa using Array.mem_of_getElem? ht
        have hall : ([22, 9].all fun u => !Tryd.prog.wantsStandIn u) = true := by kernel_rfl
        exact (show Tryd.prog.wantsStandIn t = false by simpa using List.all_eq_true.1 hall t hm)⟩)
    (by kernel_rfl)
#print axioms proved
end Go.Proofs.YtfnlgpngnknkmaaDoor.keyBack
