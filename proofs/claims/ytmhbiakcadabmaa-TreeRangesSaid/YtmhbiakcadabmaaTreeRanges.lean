/-
  What is proved here: the statement TreeRanges: the keys between any two, as many as are wanted; for every input.
  No condition.
-/
import Derived.Test.YtmhbiakcadabmaaPlay10
import Derived.Test.YtmhbiakcadabmaaArgs2
import Derived.ProofKit
import Derived.OpenShut
import Derived.HandedShaped
import Derived.Deep.DeepCutAuto
namespace Go.Proofs.Ytmhbiakcadabmaa.treeRanges
open Go.ChangeShapes Go.WideShapes Go.ChangeAt Go.RowKit Go.Proofs.Ytmhbiakcadabmaa
set_option linter.unusedVariables false

set_option maxRecDepth 100000 in
set_option maxHeartbeats 4000000 in
theorem walk (p : Option Addr) (l : List StepD) (q : Nat) (a b : ByteArray) (most : Int) (w : World) (hl : ((l.length : Nat) : Int) ≤ 9223372036854775807) (hst : StepsAt w p l) (_ha : a.size ≤ maxLen) (_hb : b.size ≤ maxLen) (_hm : -9223372036854775808 ≤ most ∧ most ≤ 9223372036854775807) :
    Calls Try.prog 3 #[.slice p l.length q, .agg #[.string a, .string b], .int .i64 most] w fun e w' => e = .returned (.bool true) ∧ Only [] w w' := by
  have HST := Lib.hid hst; clear hst
  have mixed : Try.prog.follows .mixedOrders = true := by kernel_rfl
  obtain ⟨g, hg⟩ : ∃ g, g = w.heap.size := ⟨_, rfl⟩
  have hblk : (w.alloc (.cells #[.string a, .string b] 23)).heap[g]? = some (.cells #[.string a, .string b] 23 (0, 0)) := by rw [hg]; exact heap_alloc_self
  have O0 := Lib.hid (Only.alloc [] w (.cells #[.string a, .string b] 23))
  go_enter Try.func3, Try.ntmps3
  go_upto_region 1 with fail
  rw [← hg]
  generalize (w.alloc (.cells #[.string a, .string b] 23)) = V at *
  have e0 : V.cell? ⟨g, 0, none⟩ = some (.string a) := cell_of_block hblk 0 rfl
  have e1 : V.cell? ⟨g, 1, none⟩ = some (.string b) := cell_of_block hblk 1 rfl
  clear hblk hg
  go_quiet (fail)
  have O1 := Lib.hid (O0.out.trans (Only.drewN [] V nq) (Within.nil _ _))
  generalize V.drewN nq = V1 at *
  clear e0 e1 O0
  have hn := new_any (Sep.of_old O1.out) 4 (by omega) (by omega)
  rw [show ((4 : Nat) : Int) = 4 from rfl] at hn
  go_wp2_with fail
  refine hn.mono ?_
  rintro e w2 ⟨t, rfl, hs2⟩
  have HS2 := Lib.hid hs2; clear hs2 hn
  go_upto_region 3 with fail
  go_cut [37] (fun s37 wx => (∃ c : Bool, s37 = .bool c ∧ (c = false → fairB l = true ∧ a.size ≤ 5000 ∧ b.size ≤ 5000)) ∧ w2 = wx)
  case first =>
    cases hf : fairB l with
    | false =>
      go_wp2_with fail
      refine (fair_any p l q _ hl (HST.out.only HS2.out.old)).mono ?_
      rintro e w3 ⟨rfl, rfl⟩
      rw [hf]
      go_wp2_with fail
      go_meet
      exact ⟨⟨true, rfl, fun h => by cases h⟩, rfl⟩
    | true =>
      go_wp2_with fail
      refine (fair_any p l q _ hl (HST.out.only HS2.out.old)).mono ?_
      rintro e w3 ⟨rfl, rfl⟩
      rw [hf]
      go_wp2_with fail
      all_goals
        go_meet
        first
          | exact ⟨⟨true, rfl, fun h => by cases h⟩, rfl⟩
          | exact ⟨⟨false, rfl, fun _ => ⟨hf, by omega, by omega⟩⟩, rfl⟩
          | exact ⟨⟨_, rfl, fun h => by rw [Bool.or_eq_false_iff, decide_eq_false_iff_not, decide_eq_false_iff_not] at h; exact ⟨hf, by omega, by omega⟩⟩, rfl⟩
  case rest =>
    obtain ⟨⟨c, rfl, hc⟩, rfl⟩ := hcut
    cases c with
    | true =>
      clear hc
      go_wp2_with fail
      refine (wakes_any _).mono ?_
      rintro e w4 ⟨rfl, ho⟩
      have HO := Lib.hid (HS2.out.old.trans ho (Within.nil _ _)); clear ho
      go_wp2_with fail
      go_ret
      exact ⟨rfl, HO.out⟩
    | false =>
      obtain ⟨hf, ha5, hb5⟩ := hc rfl
      have HF := Lib.hid hf; clear hc hf
      have hs3 := ref_new HS2.out
      obtain ⟨b0, hb0⟩ : ∃ b0, b0 = w2.heap.size := ⟨_, rfl⟩
      rw [← hb0] at hs3
      have HS3 := Lib.hid hs3
      have HB0 := Lib.hid hb0
      clear hs3 hb0 HS2
      go_wp2_with fail
      rw [← HB0.out]
      go_loopw [12] (fun s12 wr => ∃ (i : Nat) (L : List E), i ≤ l.length ∧ s12 = .int .i64 i ∧ L.length ≤ 4096 ∧ Sep w wr [refRes b0 L, treeRes t 4 L]) (fun s12 _ => l.length - (intOf s12).toNat)
      case atStart => exact ⟨0, [], Nat.zero_le _, rfl, by simp, HS3.out⟩
      case round =>
        obtain ⟨i, L, hi, rfl, hL, hs⟩ := hrel
        have HT := Lib.hid hs; clear hs HS3
        by_cases hlt : i < l.length
        · obtain ⟨x, hx⟩ : ∃ x, l[i]? = some x := ⟨_, List.getElem?_eq_getElem hlt⟩
          obtain ⟨b', o, rfl, hb', _, hn1, c0, c1, c2⟩ := (HST.out.only HT.out.old) i x hx
          have HX := Lib.hid hx; clear hx
          have hL2 := stepR_len x hL
          obtain ⟨kind, key, n⟩ := x
          simp only at hn1 c0 c1 c2
          by_cases k1 : kind = 1
          · subst k1
            have HE := Lib.hid (show stepR L ⟨1, key, n⟩ = delL L key from if_pos rfl)
            rw [HE.out] at hL2
            go_wp2_with fail
            refine (tdel_any HT.out.up1 key (by omega)).mono ?_
            rintro r w4 ⟨rfl, hs4⟩
            have HS4 := Lib.hid hs4
            obtain ⟨kk0, kk1, kk2⟩ := (HST.out.only hs4.old).at HX.out
            clear hs4
            go_wp2_with fail
            refine (rdel_all HS4.out.up1 key hL).mono ?_
            rintro r w5 ⟨rfl, hs5⟩
            have HS5 := Lib.hid hs5; clear hs5
            go_wp2_with fail
            go_roundw
            case rel => exact ⟨i + 1, delL L key, by omega, by go_num, hL2, HS5.out⟩
            case measure => simp [intOf]; omega
          · have HE := Lib.hid (show stepR L ⟨kind, key, n⟩ = (putR L (key, n)).1 from if_neg k1)
            rw [HE.out] at hL2
            have k1' : (kind == 1) = false := by rw [beq_eq_false_iff_ne]; exact k1
            clear k1
            go_upto_region 12 with fail
            go_cut [] (fun wx => Sep w wx [treeRes t 4 (putR L (key, n)).1, refRes b0 L])
            case first =>
              go_region_held3 (fun w' => w'.cell? ⟨b', o + i * 3 + 1, none⟩ = some (.string key) ∧ w'.cell? ⟨b', o + i * 3 + 2, none⟩ = some (.int .i64 n)) (first | go_keep | (refine ⟨?_, ?_⟩ <;> assumption)) (first | (go_at_call 15; refine (tput_all (HT.out.up1.drew) key n hL).mono ?_; rintro r w4 ⟨rfl, hs4⟩; have HS4 := Lib.hid hs4; obtain ⟨kk0, kk1, kk2⟩ := (HST.out.only hs4.old).at HX.out; clear hs4))
              all_goals
                go_wp2_with fail
                go_meet
                exact HS4.out
            case rest =>
              have HS5 := Lib.hid hcut
              obtain ⟨kk0, kk1, kk2⟩ := (HST.out.only hcut.old).at HX.out
              clear hcut c0 c1 c2
              go_wp2_with fail
              go_region_held3 (fun w' => w'.cell? ⟨b', o + i * 3 + 1, none⟩ = some (.string key) ∧ w'.cell? ⟨b', o + i * 3 + 2, none⟩ = some (.int .i64 n)) (first | go_keep | (refine ⟨?_, ?_⟩ <;> assumption)) (first | (go_at_call 16; refine (rput_all (HS5.out.up1.drew) key n hL).mono ?_; rintro r w4 ⟨rfl, hs4⟩; have HS6 := Lib.hid hs4; obtain ⟨kk0, kk1, kk2⟩ := (HST.out.only hs4.old).at HX.out; clear hs4))
              all_goals
                go_wp2_with fail
                go_roundw
                case rel => exact ⟨i + 1, (putR L (key, n)).1, by omega, by go_num, hL2, HS6.out⟩
                case measure => simp [intOf]; omega
        · go_wp2_with fail
          refine (range_any HT.out.up1.tree (by omega) a b most).mono ?_
          rintro r w4 ⟨p1, q1, rfl, hs4⟩
          have HS4 := Lib.hid (HT.out.joinNew hs4); clear hs4
          go_wp2_with fail
          refine (rrange_any HS4.out HS4.out.up1.ref (by omega) a b most).mono ?_
          rintro r w5 ⟨p2, q2, rfl, hs5, ho5⟩
          have HS5 := Lib.hid hs5; clear hs5 ho5
          have hr1 := rangeL_len L a b most
          go_wp2_with fail
          refine (same_any (entsAt_row HS5.out.up1.row) (entsAt_row HS5.out.row) (by omega) (by omega)).mono ?_
          rintro r w6 ⟨rfl, ho6⟩
          have HS6 := Lib.hid ((HS5.out.only ho6).tail.tail); clear ho6
          rw [decide_eq_true rfl]
          go_wp2_with fail
          refine (range_any HS6.out.up1.tree (by omega) a b 4096).mono ?_
          rintro r w7 ⟨p3, q3, rfl, hs7⟩
          have HS7 := Lib.hid (HS6.out.joinNew hs7); clear hs7
          go_wp2_with fail
          refine (rrange_any HS7.out HS7.out.up1.ref (by omega) a b 4096).mono ?_
          rintro r w8 ⟨p4, q4, rfl, hs8, ho8⟩
          have HS8 := Lib.hid hs8; clear hs8 ho8
          have hr2 := rangeL_len L a b 4096
          go_wp2_with fail
          refine (same_any (entsAt_row HS8.out.up1.row) (entsAt_row HS8.out.row) (by omega) (by omega)).mono ?_
          rintro r w9 ⟨rfl, ho9⟩
          have O9 := Lib.hid (HS8.out.old.trans ho9 (Within.nil _ _)); clear ho9
          rw [decide_eq_true rfl]
          go_wp2_with fail
          refine (wakes_any _).mono ?_
          rintro e w10 ⟨rfl, ho⟩
          have HO := Lib.hid (O9.out.trans ho (Within.nil _ _)); clear ho
          go_wp2_with fail
          go_ret
          exact ⟨rfl, HO.out⟩

theorem own : ownKnob Try.prog.godebug = none := by kernel_rfl
theorem laidOut : laidOutB Try.prog = true := by kernel_rfl

set_option maxRecDepth 100000 in
theorem lifted (os : Os) (started : os.Started) (H : Type) (enc : TypeId × Value → H) :
    ReturnsInHanded {} Try.checked os 3 .any (Rows.treeRangesSpec.pre6 enc Try.prog Try.f3 Rows.treeRangesRow.domain false) (Rows.treeRangesSpec.post enc Try.prog Try.f3 false true false false) := by
  refine returnsInHanded_of_change (C := Try.checked) own started (by kernel_rfl) Try.func3
    (ChangeSpec.witness6 (enc := enc) (C := Try.checked) false ⟨#[], #[.slice none 0 0, .agg #[.string ⟨#[]⟩, .string ⟨#[]⟩], .int .i64 0], []⟩ 8 (by kernel_rfl) (by kernel_rfl) (by kernel_rfl) (by kernel_rfl)) ?_
  intro W base args ds gs before hval0 hW hcnd _
  have hval : ∀ (j : Nat) t v, Try.f3.params[j]? = some t → args[j]? = some v → Value.okWide Try.prog W .any base t v := hval0
  have hW' := hW
  obtain ⟨pp, pq, hA0, hV, rfl, hfz, hnd⟩ := hW
  have hA : DataW.TrodAll enc Try.prog W 0 (fun _ => true) true Try.f3.params.toList args.toList ds pp := hA0
  rw [Try.params3] at hA hval
  obtain ⟨v0, vs0, d0, ds0, p0, q0, hargs, rfl, rfl, h0, r0⟩ := trodAll_cons hA
  obtain ⟨v1, vs1, d1, ds1, p1, q1, rfl, rfl, rfl, h1, r1⟩ := trodAll_cons r0
  obtain ⟨v2, vs2, d2, ds2, p2, q2, rfl, rfl, rfl, h2, r2⟩ := trodAll_cons r1
  obtain ⟨rfl, rfl, rfl⟩ := trodAll_nil r2
  obtain rfl : args = #[v0, v1, v2] := by cases args; simp_all
  obtain ⟨rfl, rfl⟩ := trodVars_none hV
  obtain ⟨sp0, sl0, sq0, rfl, hl0, hst0⟩ := open_steps (W := W) (v := v0) (by
    obtain ⟨a, len, cap, rfl⟩ := okWide_slice Try.underlying22 (hval 0 22 v0 rfl rfl)
    exact ⟨a, len, cap, rfl⟩) h0
  obtain ⟨pa1, pb1, rfl, wa1, wb1⟩ := open_pair (W := W) (hval 1 23 v1 rfl rfl) h1
  obtain ⟨a2, rfl, rfl, rfl, w2⟩ := open_int Try.underlying3 (hval 2 3 v2 rfl rfl) h2
  clear hA0 hval0
  simp only [List.append_nil] at hW'
  refine (walk sp0 sl0 sq0 pa1 pb1 a2 W hl0 hst0 wa1 wb1 (bounds_i64 w2)).mono fun e W' ⟨he, hg⟩ => ?_
  subst he
  have hb : Below W.heap.size W W' := hg.below (Nat.le_refl _) (by simp)
  have hargs := (trodAll_cons_mk (Below.trod laidOut (by kernel_rfl) (of_decide_eq_true (by kernel_rfl)) h0 hb (fun x hx => hW'.lt x (by simp [hx]))) (trodAll_cons_mk (Below.trod laidOut (by kernel_rfl) (of_decide_eq_true (by kernel_rfl)) h1 hb (fun x hx => hW'.lt x (by simp [hx]))) (trodAll_cons_mk (shut_int Try.underlying3 w2) trodAll_mk0)))
  simp only [List.append_nil] at hargs
  exact ⟨_, rfl, _, _, _, [], _, [], hW', trodAll_cons_mk (shut_bool Try.underlying4 _) trodAll_mk0, hargs, rfl, hb.frame _, fun h => by cases h⟩

theorem over : Rows.treeRangesRow.holds Try.pinned (OpenSpec.ofChange Rows.treeRangesSpec) :=
  OpenClaim.holds_of_wide 3 Try.f3 rfl rfl rfl rfl rfl rfl rfl ⟨rfl, rfl, rfl, rfl, rfl⟩ rfl rfl rfl rfl rfl (by kernel_rfl) Try.func3 (by kernel_rfl)
    (of_decide_eq_true (by kernel_rfl)) (by unfold Func.isWrapper; first | (rw [if_pos (by decide +kernel)]; kernel_rfl) | (rw [if_neg (by decide +kernel)]; exact ⟨rfl, rfl⟩))
    (fun os started H enc _ => lifted os started H enc)

theorem proved : Rows.TreeRangesSaid := over
#print axioms proved
end Go.Proofs.Ytmhbiakcadabmaa.treeRanges
