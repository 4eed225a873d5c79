/-
  What is proved here: the statement KeyJoins: keys that stand one behind the other are the key of the values of both; for every input.
  No condition beyond the row's own (two tables of unicode/utf8 and the longest index are as the library lays them; they are not read).
-/
import Derived.Test.YtfnlgpngnknkmaaDoorKyH
import Derived.Test.YtfnlgpngnknkmaaDoorTie
import Derived.Test.YtfnlgpngnknkmaaDoorCards
import Derived.LaidMore
import Derived.Lay
import Derived.SevenTiedAt
import Derived.Stop.Joined
namespace Go.Proofs.YtfnlgpngnknkmaaDoor.keyJoins
open Go.ChangeShapes Go.WideShapes Go.ChangeAt Go.RowKit Go.Proofs.YtfnlgpngnknkmaaDoor Go.Proofs.YtfnlgpngnknkmaaDoor.F
set_option linter.unusedVariables false
set_option linter.unusedSimpArgs false

theorem makeS_app (x y : List ValD) (hx : (makeS x).2 = 0) (hy : (makeS y).2 = 0) : makeS (x ++ y) = if 4096 < (makeS x).1.size + (makeS y).1.size then (⟨#[]⟩, 2) else ((makeS x).1 ++ (makeS y).1, 0) := by
  obtain ⟨h1, h2, h3⟩ := makeS_ok hx
  obtain ⟨h4, h5, h6⟩ := makeS_ok hy
  rw [h2, h5, size_key, size_key]
  have hk : keyL (x ++ y) = keyL x ++ keyL y := by simp [keyL]
  have hall : (x ++ y).all okV = true := by rw [List.all_append, h1, h4]; rfl
  unfold makeS
  rw [if_pos hall, hk, List.length_append]
  by_cases hb : 4096 < (keyL x).length + (keyL y).length
  · rw [if_pos hb, if_pos hb]
  · rw [if_neg hb, if_neg hb]
    congr 1
theorem makeS_parts {x y : List ValD} (h : (makeS (x ++ y)).2 = 0) : (makeS x).2 = 0 ∧ (makeS y).2 = 0 := by
  obtain ⟨h1, h2, h3⟩ := makeS_ok h
  have hk : keyL (x ++ y) = keyL x ++ keyL y := by simp [keyL]
  rw [hk, List.length_append] at h3
  rw [List.all_append, Bool.and_eq_true] at h1
  unfold makeS
  rw [if_pos h1.1, if_pos h1.2, if_neg (by omega), if_neg (by omega)]
  exact ⟨rfl, rfl⟩

set_option maxRecDepth 100000 in
set_option maxHeartbeats 1000000 in
theorem walk (pa : Option Addr) (a : List S45) (qa : Nat) (pb : Option Addr) (b : List S45) (qb : Nat) (w : World) (hla : a.length ≤ 9223372036854775807) (hqa : a.length ≤ qa) (hsa : ValsAt w pa a) (hna : In64 a)
    (hlb : b.length ≤ 9223372036854775807) (hqb : b.length ≤ qb) (hsb : ValsAt w pb b) (hnb : In64 b) (hlo : Lo w) :
    Calls Tryd.prog 8 #[.slice pa a.length qa, .slice pb b.length qb] w fun e w' => e = .returned (.bool true) ∧ Only [] w w' := by
  have HLA := Lib.hid hla; clear hla
  have HQA := Lib.hid hqa; clear hqa
  have HSA := Lib.hid hsa; clear hsa
  have HNA := Lib.hid hna; clear hna
  have HLB := Lib.hid hlb; clear hlb
  have HQB := Lib.hid hqb; clear hqb
  have HSB := Lib.hid hsb; clear hsb
  have HNB := Lib.hid hnb; clear hnb
  have HLO := Lib.hid hlo; clear hlo
  obtain ⟨iv, IV⟩ := info_of Tryd.infoVal
  cases ha : largeB a with
  | true =>
    have HA := Lib.hid ha; clear ha
    go_enter Tryd.func8, Tryd.ntmps8
    go_wp2_with fail
    refine (large_any pa qa a _ HSA.out HQA.out HLA.out).mono ?_
    rintro e w1 ⟨rfl, o1⟩
    have O1 := Lib.hid o1; clear o1
    rw [HA.out]
    go_wp2_with fail
    refine (wakes_any _ (HLO.out.only O1.out)).mono ?_
    rintro e w2 ⟨rfl, o2⟩
    have O2 := Lib.hid (O1.out.trans o2 (Within.nil _ _)); clear o2
    go_wp2_with fail
    go_ret
    exact ⟨rfl, O2.out⟩
  | false =>
    have hka := (large_false ha).1
    have HA := Lib.hid ha; clear ha
    cases hb : largeB b with
    | true =>
      have HB := Lib.hid hb; clear hb
      go_enter Tryd.func8, Tryd.ntmps8
      go_wp2_with fail
      refine (large_any pa qa a _ HSA.out HQA.out HLA.out).mono ?_
      rintro e w1 ⟨rfl, o1⟩
      have O1 := Lib.hid o1; clear o1
      rw [HA.out]
      go_wp2_with fail
      refine (large_any pb qb b _ (HSB.out.only O1.out) HQB.out HLB.out).mono ?_
      rintro e w2 ⟨rfl, o2⟩
      have O2 := Lib.hid (O1.out.trans o2 (Within.nil _ _)); clear o2
      rw [HB.out]
      go_wp2_with fail
      refine (wakes_any _ (HLO.out.only O2.out)).mono ?_
      rintro e w3 ⟨rfl, o3⟩
      have O3 := Lib.hid (O2.out.trans o3 (Within.nil _ _)); clear o3
      go_wp2_with fail
      go_ret
      exact ⟨rfl, O3.out⟩
    | false =>
      have hkb := (large_false hb).1
      have HB := Lib.hid hb; clear hb
      have HNJ : Hid (In64 (a ++ b)) := fun x hx => by
        rcases List.mem_append.1 hx with h | h
        · exact HNA.out x h
        · exact HNB.out x h
      have hmap : (a ++ b).map vd = a.map vd ++ b.map vd := by simp
      by_cases e1 : (makeS (a.map vd)).2 = 0
      · by_cases e2 : (makeS (b.map vd)).2 = 0
        · have hj := makeS_app _ _ e1 e2
          obtain ⟨S, hS⟩ : ∃ S, makeS (a.map vd) = (S, 0) := ⟨(makeS (a.map vd)).1, by rw [← e1]⟩
          obtain ⟨T, hT⟩ : ∃ T, makeS (b.map vd) = (T, 0) := ⟨(makeS (b.map vd)).1, by rw [← e2]⟩
          have z1 := (makeS_ok e1).2
          have z2 := (makeS_ok e2).2
          rw [hS] at z1
          rw [hT] at z2
          simp only at z1 z2
          have y1 : S.size ≤ 4096 := by rw [z1.1, size_key]; exact z1.2
          have y2 : T.size ≤ 4096 := by rw [z2.1, size_key]; exact z2.2
          rw [hS, hT, ← hmap] at hj
          simp only at hj
          have HS := Lib.hid hS
          have HT := Lib.hid hT
          clear hS hT e1 e2 z1 z2 hmap
          by_cases hbig : 4096 < S.size + T.size
          · rw [if_pos hbig] at hj
            have HJ := Lib.hid hj; clear hj
            go_enter Tryd.func8, Tryd.ntmps8
            go_wp2_with fail
            refine (large_any pa qa a _ HSA.out HQA.out HLA.out).mono ?_
            rintro e w1 ⟨rfl, o1⟩
            have O1 := Lib.hid o1; clear o1
            rw [HA.out]
            go_wp2_with fail
            refine (large_any pb qb b _ (HSB.out.only O1.out) HQB.out HLB.out).mono ?_
            rintro e w2 ⟨rfl, o2⟩
            have O2 := Lib.hid (O1.out.trans o2 (Within.nil _ _)); clear o2
            rw [HB.out]
            go_wp2_with fail
            refine (few_any pa qa a _ (HSA.out.only O2.out) HQA.out (by omega)).mono ?_
            rintro e w3 ⟨p3, q3, rfl, hq3, hv3, o3⟩
            have HV3 := Lib.hid hv3; clear hv3 hq3
            have O3 := Lib.hid (O2.out.trans o3 (Within.nil _ _)); clear o3
            go_wp2_with fail
            refine (key_make_any p3 q3 a _ HV3.out (by omega) HNA.out (HLO.out.only O3.out)).mono ?_
            rintro e w4 ⟨rfl, o4⟩
            have O4 := Lib.hid (O3.out.trans o4 (Within.nil _ _)); clear o4
            clear HV3
            go_wp2_with fail
            refine (few_any pb qb b _ (HSB.out.only O4.out) HQB.out (by omega)).mono ?_
            rintro e w5 ⟨p5, q5, rfl, hq5, hv5, o5⟩
            have HV5 := Lib.hid hv5; clear hv5 hq5
            have O5 := Lib.hid (O4.out.trans o5 (Within.nil _ _)); clear o5
            go_wp2_with fail
            refine (key_make_any p5 q5 b _ HV5.out (by omega) HNB.out (HLO.out.only O5.out)).mono ?_
            rintro e w6 ⟨rfl, o6⟩
            have O6 := Lib.hid (O5.out.trans o6 (Within.nil _ _)); clear o6
            clear HV5
            go_wp2_with fail
            refine (few_own pa qa a _ (HSA.out.only O6.out) (by omega)).mono ?_
            rintro e w7 ⟨p7, q7, rfl, hs7⟩
            have HS7 := Lib.hid hs7
            have o7 := hs7.old
            clear hs7
            have O7 := Lib.hid (O6.out.trans o7 (Within.nil _ _)); clear o7
            go_wp2_with (at_builtin; go_must (refine wpList_append_src (e := 45) (w := w6) (l := []) rfl (.tmp 32) (.tmp 33) 22 rfl iv _ 3 32 Tryd.underlying22 IV.out rfl (by decide) _ a.length (valCells a) rfl pb b.length qb (valCells b) rfl (valCells_length b) ?cells (valCells_one b) HS7.out (by unfold maxLen; omega) (by omega) ?_))
            case cells => exact vals_src (HSB.out.only O7.out)
            intro p8 q8 w8 hs8
            have HS8 : Hid (ValsAt w8 p8 (a ++ b)) := Sep.valsAt (w := w6) (n := a.length + b.length) (q := q8) (r := []) (by rw [valCells_append]; exact hs8)
            have O8 := Lib.hid (O6.out.trans hs8.old (Within.nil _ _)); clear hs8 HS7
            go_wp2_with fail
            refine ((by have := key_make_any p8 q8 (a ++ b) w8 HS8.out (by simp; omega) HNJ.out (HLO.out.only O8.out); rw [List.length_append] at this; exact this : Calls Tryd.prog 13 #[.slice p8 (a.length + b.length) q8] w8 _)).mono ?_
            rintro e w9 ⟨rfl, o9⟩
            have O9 := Lib.hid (O8.out.trans o9 (Within.nil _ _)); clear o9
            clear HS8
            rw [HS.out, HT.out, HJ.out]
            go_wp2_with fail
            refine (wakes_any _ (HLO.out.only O9.out)).mono ?_
            rintro e w10 ⟨rfl, o10⟩
            have O10 := Lib.hid (O9.out.trans o10 (Within.nil _ _)); clear o10
            go_wp2_with fail
            go_ret
            exact ⟨rfl, O10.out⟩
          · rw [if_neg hbig] at hj
            have HJ := Lib.hid hj; clear hj
            have hsum : S.size + T.size ≤ 4096 := by omega
            go_enter Tryd.func8, Tryd.ntmps8
            go_wp2_with fail
            refine (large_any pa qa a _ HSA.out HQA.out HLA.out).mono ?_
            rintro e w1 ⟨rfl, o1⟩
            have O1 := Lib.hid o1; clear o1
            rw [HA.out]
            go_wp2_with fail
            refine (large_any pb qb b _ (HSB.out.only O1.out) HQB.out HLB.out).mono ?_
            rintro e w2 ⟨rfl, o2⟩
            have O2 := Lib.hid (O1.out.trans o2 (Within.nil _ _)); clear o2
            rw [HB.out]
            go_wp2_with fail
            refine (few_any pa qa a _ (HSA.out.only O2.out) HQA.out (by omega)).mono ?_
            rintro e w3 ⟨p3, q3, rfl, hq3, hv3, o3⟩
            have HV3 := Lib.hid hv3; clear hv3 hq3
            have O3 := Lib.hid (O2.out.trans o3 (Within.nil _ _)); clear o3
            go_wp2_with fail
            refine (key_make_any p3 q3 a _ HV3.out (by omega) HNA.out (HLO.out.only O3.out)).mono ?_
            rintro e w4 ⟨rfl, o4⟩
            have O4 := Lib.hid (O3.out.trans o4 (Within.nil _ _)); clear o4
            clear HV3
            go_wp2_with fail
            refine (few_any pb qb b _ (HSB.out.only O4.out) HQB.out (by omega)).mono ?_
            rintro e w5 ⟨p5, q5, rfl, hq5, hv5, o5⟩
            have HV5 := Lib.hid hv5; clear hv5 hq5
            have O5 := Lib.hid (O4.out.trans o5 (Within.nil _ _)); clear o5
            go_wp2_with fail
            refine (key_make_any p5 q5 b _ HV5.out (by omega) HNB.out (HLO.out.only O5.out)).mono ?_
            rintro e w6 ⟨rfl, o6⟩
            have O6 := Lib.hid (O5.out.trans o6 (Within.nil _ _)); clear o6
            clear HV5
            go_wp2_with fail
            refine (few_own pa qa a _ (HSA.out.only O6.out) (by omega)).mono ?_
            rintro e w7 ⟨p7, q7, rfl, hs7⟩
            have HS7 := Lib.hid hs7
            have o7 := hs7.old
            clear hs7
            have O7 := Lib.hid (O6.out.trans o7 (Within.nil _ _)); clear o7
            go_wp2_with (at_builtin; go_must (refine wpList_append_src (e := 45) (w := w6) (l := []) rfl (.tmp 32) (.tmp 33) 22 rfl iv _ 3 32 Tryd.underlying22 IV.out rfl (by decide) _ a.length (valCells a) rfl pb b.length qb (valCells b) rfl (valCells_length b) ?cells (valCells_one b) HS7.out (by unfold maxLen; omega) (by omega) ?_))
            case cells => exact vals_src (HSB.out.only O7.out)
            intro p8 q8 w8 hs8
            have HS8 : Hid (ValsAt w8 p8 (a ++ b)) := Sep.valsAt (w := w6) (n := a.length + b.length) (q := q8) (r := []) (by rw [valCells_append]; exact hs8)
            have O8 := Lib.hid (O6.out.trans hs8.old (Within.nil _ _)); clear hs8 HS7
            go_wp2_with fail
            refine ((by have := key_make_any p8 q8 (a ++ b) w8 HS8.out (by simp; omega) HNJ.out (HLO.out.only O8.out); rw [List.length_append] at this; exact this : Calls Tryd.prog 13 #[.slice p8 (a.length + b.length) q8] w8 _)).mono ?_
            rintro e w9 ⟨rfl, o9⟩
            have O9 := Lib.hid (O8.out.trans o9 (Within.nil _ _)); clear o9
            clear HS8
            rw [HS.out, HT.out, HJ.out]
            go_wp2_with fail
            refine (wakes_any _ (HLO.out.only O9.out)).mono ?_
            rintro e w10 ⟨rfl, o10⟩
            have O10 := Lib.hid (O9.out.trans o10 (Within.nil _ _)); clear o10
            go_wp2_with fail
            go_ret
            exact ⟨rfl, O10.out⟩
        · obtain ⟨S, hS⟩ : ∃ S, makeS (a.map vd) = (S, 0) := ⟨(makeS (a.map vd)).1, by rw [← e1]⟩
          obtain ⟨T, n, hT⟩ : ∃ T n, makeS (b.map vd) = (T, n) := ⟨_, _, rfl⟩
          obtain ⟨U, m, hU⟩ : ∃ U m, makeS ((a ++ b).map vd) = (U, m) := ⟨_, _, rfl⟩
          have e5 : m ≠ 0 := fun h => e2 (makeS_parts (by rw [← hmap, hU]; exact h)).2
          rw [hT] at e2
          simp only at e2
          have HS := Lib.hid hS
          have HT := Lib.hid hT
          have HU := Lib.hid hU
          clear hS hT hU e1 hmap
          have e3 : (n != 0) = true := by rw [bne_iff_ne]; exact e2
          have e4 : (m != 0) = true := by rw [bne_iff_ne]; exact e5
          go_enter Tryd.func8, Tryd.ntmps8
          go_wp2_with fail
          refine (large_any pa qa a _ HSA.out HQA.out HLA.out).mono ?_
          rintro e w1 ⟨rfl, o1⟩
          have O1 := Lib.hid o1; clear o1
          rw [HA.out]
          go_wp2_with fail
          refine (large_any pb qb b _ (HSB.out.only O1.out) HQB.out HLB.out).mono ?_
          rintro e w2 ⟨rfl, o2⟩
          have O2 := Lib.hid (O1.out.trans o2 (Within.nil _ _)); clear o2
          rw [HB.out]
          go_wp2_with fail
          refine (few_any pa qa a _ (HSA.out.only O2.out) HQA.out (by omega)).mono ?_
          rintro e w3 ⟨p3, q3, rfl, hq3, hv3, o3⟩
          have HV3 := Lib.hid hv3; clear hv3 hq3
          have O3 := Lib.hid (O2.out.trans o3 (Within.nil _ _)); clear o3
          go_wp2_with fail
          refine (key_make_any p3 q3 a _ HV3.out (by omega) HNA.out (HLO.out.only O3.out)).mono ?_
          rintro e w4 ⟨rfl, o4⟩
          have O4 := Lib.hid (O3.out.trans o4 (Within.nil _ _)); clear o4
          clear HV3
          go_wp2_with fail
          refine (few_any pb qb b _ (HSB.out.only O4.out) HQB.out (by omega)).mono ?_
          rintro e w5 ⟨p5, q5, rfl, hq5, hv5, o5⟩
          have HV5 := Lib.hid hv5; clear hv5 hq5
          have O5 := Lib.hid (O4.out.trans o5 (Within.nil _ _)); clear o5
          go_wp2_with fail
          refine (key_make_any p5 q5 b _ HV5.out (by omega) HNB.out (HLO.out.only O5.out)).mono ?_
          rintro e w6 ⟨rfl, o6⟩
          have O6 := Lib.hid (O5.out.trans o6 (Within.nil _ _)); clear o6
          clear HV5
          go_wp2_with fail
          refine (few_own pa qa a _ (HSA.out.only O6.out) (by omega)).mono ?_
          rintro e w7 ⟨p7, q7, rfl, hs7⟩
          have HS7 := Lib.hid hs7
          have o7 := hs7.old
          clear hs7
          have O7 := Lib.hid (O6.out.trans o7 (Within.nil _ _)); clear o7
          go_wp2_with (at_builtin; go_must (refine wpList_append_src (e := 45) (w := w6) (l := []) rfl (.tmp 32) (.tmp 33) 22 rfl iv _ 3 32 Tryd.underlying22 IV.out rfl (by decide) _ a.length (valCells a) rfl pb b.length qb (valCells b) rfl (valCells_length b) ?cells (valCells_one b) HS7.out (by unfold maxLen; omega) (by omega) ?_))
          case cells => exact vals_src (HSB.out.only O7.out)
          intro p8 q8 w8 hs8
          have HS8 : Hid (ValsAt w8 p8 (a ++ b)) := Sep.valsAt (w := w6) (n := a.length + b.length) (q := q8) (r := []) (by rw [valCells_append]; exact hs8)
          have O8 := Lib.hid (O6.out.trans hs8.old (Within.nil _ _)); clear hs8 HS7
          go_wp2_with fail
          refine ((by have := key_make_any p8 q8 (a ++ b) w8 HS8.out (by simp; omega) HNJ.out (HLO.out.only O8.out); rw [List.length_append] at this; exact this : Calls Tryd.prog 13 #[.slice p8 (a.length + b.length) q8] w8 _)).mono ?_
          rintro e w9 ⟨rfl, o9⟩
          have O9 := Lib.hid (O8.out.trans o9 (Within.nil _ _)); clear o9
          clear HS8
          rw [HS.out, HT.out, HU.out]
          go_wp2_with fail
          refine (wakes_any _ (HLO.out.only O9.out)).mono ?_
          rintro e w10 ⟨rfl, o10⟩
          have O10 := Lib.hid (O9.out.trans o10 (Within.nil _ _)); clear o10
          go_wp2_with fail
          go_ret
          exact ⟨rfl, O10.out⟩
      · obtain ⟨S, n, hS⟩ : ∃ S n, makeS (a.map vd) = (S, n) := ⟨_, _, rfl⟩
        obtain ⟨U, m, hU⟩ : ∃ U m, makeS ((a ++ b).map vd) = (U, m) := ⟨_, _, rfl⟩
        have e5 : m ≠ 0 := fun h => e1 (makeS_parts (by rw [← hmap, hU]; exact h)).1
        rw [hS] at e1
        simp only at e1
        have HS := Lib.hid hS
        have HU := Lib.hid hU
        clear hS hU hmap
        have e3 : (n != 0) = true := by rw [bne_iff_ne]; exact e1
        have e4 : (m != 0) = true := by rw [bne_iff_ne]; exact e5
        go_enter Tryd.func8, Tryd.ntmps8
        go_wp2_with fail
        refine (large_any pa qa a _ HSA.out HQA.out HLA.out).mono ?_
        rintro e w1 ⟨rfl, o1⟩
        have O1 := Lib.hid o1; clear o1
        rw [HA.out]
        go_wp2_with fail
        refine (large_any pb qb b _ (HSB.out.only O1.out) HQB.out HLB.out).mono ?_
        rintro e w2 ⟨rfl, o2⟩
        have O2 := Lib.hid (O1.out.trans o2 (Within.nil _ _)); clear o2
        rw [HB.out]
        go_wp2_with fail
        refine (few_any pa qa a _ (HSA.out.only O2.out) HQA.out (by omega)).mono ?_
        rintro e w3 ⟨p3, q3, rfl, hq3, hv3, o3⟩
        have HV3 := Lib.hid hv3; clear hv3 hq3
        have O3 := Lib.hid (O2.out.trans o3 (Within.nil _ _)); clear o3
        go_wp2_with fail
        refine (key_make_any p3 q3 a _ HV3.out (by omega) HNA.out (HLO.out.only O3.out)).mono ?_
        rintro e w4 ⟨rfl, o4⟩
        have O4 := Lib.hid (O3.out.trans o4 (Within.nil _ _)); clear o4
        clear HV3
        go_wp2_with fail
        refine (few_any pb qb b _ (HSB.out.only O4.out) HQB.out (by omega)).mono ?_
        rintro e w5 ⟨p5, q5, rfl, hq5, hv5, o5⟩
        have HV5 := Lib.hid hv5; clear hv5 hq5
        have O5 := Lib.hid (O4.out.trans o5 (Within.nil _ _)); clear o5
        go_wp2_with fail
        refine (key_make_any p5 q5 b _ HV5.out (by omega) HNB.out (HLO.out.only O5.out)).mono ?_
        rintro e w6 ⟨rfl, o6⟩
        have O6 := Lib.hid (O5.out.trans o6 (Within.nil _ _)); clear o6
        clear HV5
        go_wp2_with fail
        refine (few_own pa qa a _ (HSA.out.only O6.out) (by omega)).mono ?_
        rintro e w7 ⟨p7, q7, rfl, hs7⟩
        have HS7 := Lib.hid hs7
        have o7 := hs7.old
        clear hs7
        have O7 := Lib.hid (O6.out.trans o7 (Within.nil _ _)); clear o7
        go_wp2_with (at_builtin; go_must (refine wpList_append_src (e := 45) (w := w6) (l := []) rfl (.tmp 32) (.tmp 33) 22 rfl iv _ 3 32 Tryd.underlying22 IV.out rfl (by decide) _ a.length (valCells a) rfl pb b.length qb (valCells b) rfl (valCells_length b) ?cells (valCells_one b) HS7.out (by unfold maxLen; omega) (by omega) ?_))
        case cells => exact vals_src (HSB.out.only O7.out)
        intro p8 q8 w8 hs8
        have HS8 : Hid (ValsAt w8 p8 (a ++ b)) := Sep.valsAt (w := w6) (n := a.length + b.length) (q := q8) (r := []) (by rw [valCells_append]; exact hs8)
        have O8 := Lib.hid (O6.out.trans hs8.old (Within.nil _ _)); clear hs8 HS7
        go_wp2_with fail
        refine ((by have := key_make_any p8 q8 (a ++ b) w8 HS8.out (by simp; omega) HNJ.out (HLO.out.only O8.out); rw [List.length_append] at this; exact this : Calls Tryd.prog 13 #[.slice p8 (a.length + b.length) q8] w8 _)).mono ?_
        rintro e w9 ⟨rfl, o9⟩
        have O9 := Lib.hid (O8.out.trans o9 (Within.nil _ _)); clear o9
        clear HS8
        rw [HS.out, HU.out]
        generalize makeS (b.map vd) = r
        go_wp2_with fail
        refine (wakes_any _ (HLO.out.only O9.out)).mono ?_
        rintro e w10 ⟨rfl, o10⟩
        have O10 := Lib.hid (O9.out.trans o10 (Within.nil _ _)); clear o10
        go_wp2_with fail
        go_ret
        exact ⟨rfl, O10.out⟩

set_option maxRecDepth 100000 in
theorem lifted (os : Os) (started : os.Started) (H : Type) (enc : TypeId × Value → H) :
    ReturnsInHanded {} Tryd.checked os 8 .any (fun w args => (Rows.keyJoinsSpec.pre enc Tryd.prog Tryd.f8 Rows.keyJoinsRow.domain false w args ∧ laidMetH Tryd.prog Rows.keyJoinsRow.laid w) ∧ sizedMet enc Tryd.prog Tryd.f8 (OpenSpec.ofChange Rows.keyJoinsSpec) false w args)
      (Rows.keyJoinsSpec.post enc Tryd.prog Tryd.f8 false true false false) := by
  refine handed_door (C := Tryd.checked) (X := fun w _ => laidMetH Tryd.prog Rows.keyJoinsRow.laid w) own started (by kernel_rfl) Tryd.func8
    (ChangeSpec.witness_shaped (enc := enc) (C := Tryd.checked) (os := os) (X := fun w _ => laidMetH Tryd.prog Rows.keyJoinsRow.laid w) false (World.laidAll Tryd.prog os Rows.keyJoinsRow.laid) #[.slice none 0 0, .slice none 0 0] 8 (World.laidAll_os _ _ _)
      (World.shaped_of_ZipB (by kernel_rfl) (by kernel_rfl)) (by kernel_rfl) (by kernel_rfl) (by kernel_rfl)
      (by rw [MakeChecks.laidMetH_plain _ _ _ (by kernel_rfl)]; exact laidMet_laidAll _ (by kernel_rfl) (by kernel_rfl))) ?_
  intro W base args ds gs before hval0 hW hsh
  have hlo := lo_of_shape hsh
  clear hsh
  have hval : ∀ (j : Nat) t v, Tryd.f8.params[j]? = some t → args[j]? = some v → Value.okWide Tryd.prog W .any base t v := hval0
  have hW' := hW
  obtain ⟨pp, pq, hA0, hV, rfl, hfz, hnd⟩ := hW
  have hA : DataW.TrodAll enc Tryd.prog W 0 (fun _ => true) true Tryd.f8.params.toList args.toList ds pp := hA0
  rw [Tryd.params8] at hA hval
  obtain ⟨v0, vs0, d0, ds0, p0, q0, hargs, rfl, rfl, h0, r0⟩ := trodAll_cons hA
  obtain ⟨v1, vs1, d1, ds1, p1, q1, rfl, rfl, rfl, h1, r1⟩ := trodAll_cons r0
  obtain ⟨rfl, rfl, rfl⟩ := trodAll_nil r1
  obtain rfl : args = #[v0, v1] := by cases args; simp_all
  obtain ⟨rfl, rfl⟩ := trodVars_none hV
  obtain ⟨sp0, sl0, sq0, rfl, hl0, hq0, hst0, hn0⟩ := open_vals (W := W) (v := v0) (by
    obtain ⟨a, len, cap, rfl⟩ := okWide_slice Tryd.underlying22 (hval 0 22 v0 rfl rfl)
    exact ⟨a, len, cap, rfl⟩) h0
  obtain ⟨sp1, sl1, sq1, rfl, hl1, hq1, hst1, hn1⟩ := open_vals (W := W) (v := v1) (by
    obtain ⟨a, len, cap, rfl⟩ := okWide_slice Tryd.underlying22 (hval 1 22 v1 rfl rfl)
    exact ⟨a, len, cap, rfl⟩) h1
  clear hA0 hval0
  simp only [List.append_nil] at hW'
  refine (walk sp0 sl0 sq0 sp1 sl1 sq1 W hl0 hq0 hst0 hn0 hl1 hq1 hst1 hn1 hlo).mono fun e W' ⟨he, hg⟩ => ?_
  subst he
  have hb : Below W.heap.size W W' := hg.below (Nat.le_refl _) (by simp)
  have hargs := (trodAll_cons_mk (Below.trod laidOut (by kernel_rfl) (of_decide_eq_true (by kernel_rfl)) h0 hb (fun x hx => hW'.lt x (by simp [hx]))) (trodAll_cons_mk (Below.trod laidOut (by kernel_rfl) (of_decide_eq_true (by kernel_rfl)) h1 hb (fun x hx => hW'.lt x (by simp [hx]))) trodAll_mk0))
  simp only [List.append_nil] at hargs
  exact ⟨_, rfl, _, _, _, [], _, [], hW', trodAll_cons_mk (shut_bool Tryd.underlying4 _) trodAll_mk0, hargs, rfl, hb.frame _, fun h => by cases h⟩

theorem over : Rows.KeyJoinsSaid :=
  OpenClaim.holds_of_wide 8 Tryd.f8 rfl rfl rfl rfl rfl rfl rfl ⟨rfl, rfl, rfl, rfl, rfl⟩ rfl rfl rfl rfl rfl (by kernel_rfl) Tryd.func8 (by kernel_rfl)
    (of_decide_eq_true (by kernel_rfl)) (by unfold Func.isWrapper; first | (rw [if_pos (by decide +kernel)]; kernel_rfl) | (rw [if_neg (by decide +kernel)]; exact ⟨rfl, rfl⟩))
    (fun os started H enc _ => lifted os started H enc)

theorem proved : Rows.KeyJoinsCardSaid :=
  Claim7.holds_tied_plain_at .later [] [.data, .pinned] true Rows.keyJoinsCard.stood.harness false over (fun _ h => by cases h) (by kernel_rfl) (fun _ h => by cases h) keyJoins_row_tie rfl ⟨rfl, rfl⟩ (by kernel_rfl) rfl
    (fun f fn hf hfn => by
      obtain rfl : f = 8 := Option.some.inj ((show Tryd.prog.funcNamed "hedgerow/hedgerowlaw03.KeyJoins" = some 8 by kernel_rfl).symm.trans hf) |>.symm
      obtain rfl : fn = Tryd.f8 := (Option.some.inj (Tryd.func8.symm.trans hfn)).symm
      exact ⟨by kernel_rfl, fun j t ht => by
        rw [Tryd.params8] at ht
        have hm : t ∈ [22] := by simpa using Array.mem_of_getElem? ht
        have hall : ([22].all fun u => !Tryd.prog.wantsStandIn u) = true := by kernel_rfl
        exact (show Tryd.prog.wantsStandIn t = false by simpa using List.all_eq_true.1 hall t hm)⟩)
    (by kernel_rfl)
#print axioms proved
end Go.Proofs.YtfnlgpngnknkmaaDoor.keyJoins
