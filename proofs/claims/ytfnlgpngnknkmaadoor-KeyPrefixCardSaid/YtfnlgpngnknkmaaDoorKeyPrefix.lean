/-
  What is proved here: the statement KeyPrefix: the key of some values begins with the key of the first ones of them, and stands from it on, below what is after it; for every input.
  No condition beyond the row's own (two tables of unicode/utf8 and the longest index are as the library lays them; they are not read).
-/
import Derived.Test.YtfnlgpngnknkmaaDoorKyH
import Derived.Test.YtfnlgpngnknkmaaDoorTie
import Derived.Test.YtfnlgpngnknkmaaDoorCards
import Derived.LaidMore
import Derived.Lay
import Derived.SevenTiedAt
import Derived.Stop.Joined
namespace Go.Proofs.YtfnlgpngnknkmaaDoor.keyPrefix
open Go.ChangeShapes Go.WideShapes Go.ChangeAt Go.RowKit Go.Proofs.YtfnlgpngnknkmaaDoor Go.Proofs.YtfnlgpngnknkmaaDoor.F
set_option linter.unusedVariables false
set_option linter.unusedSimpArgs false

theorem mod_eq (k n : Int) : (k.tmod n + n) % n = k % n := by
  rw [Int.add_emod_right, Int.tmod_def, Int.sub_mul_emod_self_left]

theorem mod_any (k n : Int) (w : World) (hn : 1 ≤ n) (hn2 : n ≤ 1000000) (_h1 : -9223372036854775808 ≤ k) (_h2 : k ≤ 9223372036854775807) :
    Calls Tryd.prog 23 #[.int .i64 k, .int .i64 n] w fun e w' => e = .returned (.int .i64 (k % n)) ∧ w = w' := by
  have e := mod_eq k n
  have E := Lib.hid e; clear e
  have t1 := Int.lt_tmod_of_pos k (show 0 < n by omega)
  have t2 := Int.tmod_lt_of_pos k (show 0 < n by omega)
  go_enter Tryd.func23, Tryd.ntmps23
  go_wp2
  go_ret
  exact ⟨congrArg (fun x => Ending.returned (Value.int .i64 x)) E.out, rfl⟩

theorem begins_any (s t : ByteArray) (w : World) (h : t.data.toList <+: s.data.toList) :
    Calls Tryd.prog 22 #[.string s, .string t] w fun e w' => e = .returned (.bool true) ∧ Only [] w w' := by
  obtain ⟨r, hr⟩ := h
  have hl : t.size + r.length = s.size := by rw [← list_len, ← list_len, ← hr, List.length_append]
  refine (hedgerowkeep_Begins.calls s t true w ?_).mono fun _ _ ⟨h1, h2⟩ => ⟨h1, Only.of_below h2.below⟩
  unfold hedgerowkeep_Begins.f
  rw [if_pos (by omega), if_pos (by omega), Int.toNat_natCast, Lib.toList_data, Lib.toList_data, text_of_take, ← hr, List.take_append_of_le_length (by rw [list_len]; omega), List.take_of_length_le (by rw [list_len]; omega)]
  simp

theorem take_made {l : List ValD} (h : (makeS l).2 = 0) (k : Nat) : (makeS (l.take k)).2 = 0 ∧ (makeS (l.take k)).1.data.toList <+: (makeS l).1.data.toList := by
  obtain ⟨h1, h2, h3⟩ := makeS_ok h
  have hk := keyL_take_le l k
  have h4 : makeS (l.take k) = (⟨(keyL (l.take k)).toArray⟩, 0) := by
    unfold makeS
    rw [if_pos, if_neg (by omega)]
    exact List.all_eq_true.2 fun v hv => List.all_eq_true.1 h1 v (List.mem_of_mem_take hv)
  rw [h4, h2]
  refine ⟨rfl, ?_⟩
  show keyL (l.take k) <+: keyL l
  conv => rhs; rw [← List.take_append_drop k l]
  unfold keyL
  rw [List.flatMap_append]
  exact List.prefix_append _ _

theorem few_take (p : Option Addr) (q : Nat) (l : List S45) (k : Nat) (hk : k ≤ l.length) (w : World) (h : ValsAt w p l) (hq : l.length ≤ q) (hl : l.length ≤ 1000000) :
    Calls Tryd.prog 12 #[.slice p k q] w fun e w' => ∃ p' q', e = .returned (.slice p' k q') ∧ ValsAt w' p' (l.take k) ∧ Only [] w w' := by
  have hkl : (l.take k).length = k := by rw [List.length_take]; omega
  have ht : ValsAt w p (l.take k) := fun j x hx => by
    rw [List.getElem?_take] at hx
    split at hx
    · exact h j x hx
    · cases hx
  have := few_any p q (l.take k) w ht (by omega) (by omega)
  rw [hkl] at this
  refine this.mono ?_
  rintro e w' ⟨p', q', h1, _, h3, h4⟩
  exact ⟨p', q', h1, h3, h4⟩
theorem make_take (p : Option Addr) (q : Nat) (l : List S45) (k : Nat) (hk : k ≤ l.length) (w : World) (h : ValsAt w p (l.take k)) (hl : l.length ≤ 100000) (hn : In64 l) (hlo : Lo w) :
    Calls Tryd.prog 13 #[.slice p k q] w fun e w' => e = .returned (.tuple #[.string (makeS ((l.take k).map vd)).1, .int .i64 (makeS ((l.take k).map vd)).2]) ∧ Only [] w w' := by
  have hkl : (l.take k).length = k := by rw [List.length_take]; omega
  have := key_make_any p q (l.take k) w h (by omega) (fun x hx => hn x (List.mem_of_mem_take hx)) hlo
  rw [hkl] at this
  exact this

set_option maxRecDepth 100000 in
set_option maxHeartbeats 1000000 in
theorem walk (p : Option Addr) (l : List S45) (q : Nat) (n : Int) (w : World) (hl : l.length ≤ 9223372036854775807) (hq : l.length ≤ q) (hst : ValsAt w p l) (hn : In64 l) (hb : -9223372036854775808 ≤ n ∧ n ≤ 9223372036854775807) (hlo : Lo w) :
    Calls Tryd.prog 9 #[.slice p l.length q, .int .i64 n] w fun e w' => e = .returned (.bool true) ∧ Only [] w w' := by
  have HL := Lib.hid hl; clear hl
  have HST := Lib.hid hst; clear hst
  have HN := Lib.hid hn; clear hn
  have HLO := Lib.hid hlo; clear hlo
  have HQ := Lib.hid hq
  obtain ⟨n1, n2⟩ := hb
  cases hb : largeB l with
  | true =>
    have HB := Lib.hid hb; clear hb
    go_enter Tryd.func9, Tryd.ntmps9
    go_wp2_with fail
    refine (large_any p q l _ HST.out HQ.out HL.out).mono ?_
    rintro e w1 ⟨rfl, o1⟩
    have O1 := Lib.hid o1; clear o1
    rw [HB.out]
    go_wp2_with fail
    refine (wakes_any _ (HLO.out.only O1.out)).mono ?_
    rintro e w2 ⟨rfl, o2⟩
    have O2 := Lib.hid (O1.out.trans o2 (Within.nil _ _)); clear o2
    go_wp2_with fail
    go_ret
    exact ⟨rfl, O2.out⟩
  | false =>
    have hk := (large_false hb).1
    have HB := Lib.hid hb; clear hb
    by_cases e1 : (makeS (l.map vd)).2 = 0
    · obtain ⟨S, hS⟩ : ∃ S, makeS (l.map vd) = (S, 0) := ⟨(makeS (l.map vd)).1, by rw [← e1]⟩
      obtain ⟨k, hkn⟩ : ∃ k : Nat, (k : Int) = n % ((l.length : Int) + 1) := ⟨(n % ((l.length : Int) + 1)).toNat, by have := Int.emod_nonneg n (b := (l.length : Int) + 1) (by omega); omega⟩
      have hkl : k ≤ l.length := by have := Int.emod_lt_of_pos n (b := (l.length : Int) + 1) (by omega); omega
      obtain ⟨t1, t2⟩ := take_made e1 k
      rw [hS] at t2
      have hmt : (l.map vd).take k = (l.take k).map vd := by rw [List.map_take]
      rw [hmt] at t1 t2
      obtain ⟨T, hT⟩ : ∃ T, makeS ((l.take k).map vd) = (T, 0) := ⟨(makeS ((l.take k).map vd)).1, by rw [← t1]⟩
      rw [hT] at t2
      simp only at t2
      obtain ⟨i1, i2⟩ := (in_spec T.data.toList S.data.toList).2 t2
      have z1 := (makeS_ok t1).2
      rw [hT] at z1
      simp only at z1
      have y1 : T.size ≤ 1000000 := by rw [z1.1, size_key]; omega
      have f1 : Op.bytesLess S.toList T.toList = false := by rw [Go.Proofs.bytesLess_eq, Lib.toList_data, Lib.toList_data]; exact decide_eq_false i1
      have HM := Lib.hid hS
      have HT := Lib.hid hT
      have HP := Lib.hid t2
      have HKN := Lib.hid hkn
      have F1 := Lib.hid f1
      have HI : Hid ((afterB T).toList = [] ∨ Op.bytesLess S.toList (afterB T).toList = true) := by
        rcases i2 with h | h
        · exact .inl (by rw [Lib.toList_data]; exact h)
        · refine .inr ?_
          rw [Go.Proofs.bytesLess_eq, Lib.toList_data, Lib.toList_data]
          exact decide_eq_true h
      clear hS hT t1 t2 i1 i2 z1 hmt e1 hkn f1
      go_enter Tryd.func9, Tryd.ntmps9
      go_wp2_with fail
      refine (large_any p q l _ HST.out HQ.out HL.out).mono ?_
      rintro e w1 ⟨rfl, o1⟩
      have O1 := Lib.hid o1; clear o1
      rw [HB.out]
      go_wp2_with fail
      refine (few_any p q l _ (HST.out.only O1.out) HQ.out (by omega)).mono ?_
      rintro e w2 ⟨p3, q3, rfl, hq3, hv3, o2⟩
      have HV3 := Lib.hid hv3; clear hv3 hq3
      have O2 := Lib.hid (O1.out.trans o2 (Within.nil _ _)); clear o2
      go_wp2_with fail
      refine (key_make_any p3 q3 l _ HV3.out (by omega) HN.out (HLO.out.only O2.out)).mono ?_
      rintro e w3 ⟨rfl, o3⟩
      have O3 := Lib.hid (O2.out.trans o3 (Within.nil _ _)); clear o3
      clear HV3
      rw [HM.out]
      go_wp2_with fail
      refine (mod_any n ((l.length : Int) + 1) _ (by omega) (by omega) n1 n2).mono ?_
      rintro e w4 ⟨rfl, rfl⟩
      rw [← HKN.out]
      have kq : (k : Int) ≤ (q : Int) := by omega
      go_wp2_with fail
      refine (few_take p q l k hkl _ (HST.out.only O3.out) HQ.out (by omega)).mono ?_
      rintro e w4 ⟨p5, q5, rfl, hv5, o4⟩
      have HV5 := Lib.hid hv5; clear hv5
      have O4 := Lib.hid (O3.out.trans o4 (Within.nil _ _)); clear o4
      go_wp2_with fail
      refine (make_take p5 q5 l k hkl _ HV5.out (by omega) HN.out (HLO.out.only O4.out)).mono ?_
      rintro e w5 ⟨rfl, o5⟩
      have O5 := Lib.hid (O4.out.trans o5 (Within.nil _ _)); clear o5
      clear HV5
      rw [HT.out]
      go_wp2_with fail
      refine (after_any T _ y1).mono ?_
      rintro e w6 ⟨rfl, o6⟩
      have O6 := Lib.hid (O5.out.trans o6 (Within.nil _ _)); clear o6
      obtain ⟨A, hA⟩ : ∃ A, A = afterB T := ⟨_, rfl⟩
      have HI2 := HI.out
      rw [← hA] at HI2 ⊢
      have HI3 := Lib.hid HI2; clear HI2 hA
      go_wp2_with fail
      refine (begins_any S T _ HP.out).mono ?_
      rintro e w7 ⟨rfl, o7⟩
      have O7 := Lib.hid (O6.out.trans o7 (Within.nil _ _)); clear o7
      have f1 := F1.out
      rcases HI3.out with h | h
      · have h2 : A.toList.isEmpty = true := by rw [h]; rfl
        go_wp2_with fail
        refine (wakes_any _ (HLO.out.only O7.out)).mono ?_
        rintro e w8 ⟨rfl, o8⟩
        have O8 := Lib.hid (O7.out.trans o8 (Within.nil _ _)); clear o8
        go_wp2_with fail
        go_ret
        exact ⟨rfl, O8.out⟩
      · by_cases h3 : A.toList = []
        · have h2 : A.toList.isEmpty = true := by rw [h3]; rfl
          go_wp2_with fail
          refine (wakes_any _ (HLO.out.only O7.out)).mono ?_
          rintro e w8 ⟨rfl, o8⟩
          have O8 := Lib.hid (O7.out.trans o8 (Within.nil _ _)); clear o8
          go_wp2_with fail
          go_ret
          exact ⟨rfl, O8.out⟩
        · have h2 : A.toList.isEmpty = false := by cases hh : A.toList with
            | nil => exact absurd hh h3
            | cons _ _ => rfl
          go_wp2_with fail
          refine (wakes_any _ (HLO.out.only O7.out)).mono ?_
          rintro e w8 ⟨rfl, o8⟩
          have O8 := Lib.hid (O7.out.trans o8 (Within.nil _ _)); clear o8
          go_wp2_with fail
          go_ret
          exact ⟨rfl, O8.out⟩
    · obtain ⟨S, m, hS⟩ : ∃ S m, makeS (l.map vd) = (S, m) := ⟨_, _, rfl⟩
      have h0 := makeS_not e1
      rw [hS] at e1 h0
      simp only at e1 h0
      subst h0
      have e3 : (m != 0) = true := by rw [bne_iff_ne]; exact e1
      have HM := Lib.hid hS
      clear hS
      go_enter Tryd.func9, Tryd.ntmps9
      go_wp2_with fail
      refine (large_any p q l _ HST.out HQ.out HL.out).mono ?_
      rintro e w1 ⟨rfl, o1⟩
      have O1 := Lib.hid o1; clear o1
      rw [HB.out]
      go_wp2_with fail
      refine (few_any p q l _ (HST.out.only O1.out) HQ.out (by omega)).mono ?_
      rintro e w2 ⟨p3, q3, rfl, hq3, hv3, o2⟩
      have HV3 := Lib.hid hv3; clear hv3 hq3
      have O2 := Lib.hid (O1.out.trans o2 (Within.nil _ _)); clear o2
      go_wp2_with fail
      refine (key_make_any p3 q3 l _ HV3.out (by omega) HN.out (HLO.out.only O2.out)).mono ?_
      rintro e w3 ⟨rfl, o3⟩
      have O3 := Lib.hid (O2.out.trans o3 (Within.nil _ _)); clear o3
      clear HV3
      rw [HM.out]
      go_wp2_with fail
      refine (wakes_any _ (HLO.out.only O3.out)).mono ?_
      rintro e w4 ⟨rfl, o4⟩
      have O4 := Lib.hid (O3.out.trans o4 (Within.nil _ _)); clear o4
      go_wp2_with fail
      go_ret
      exact ⟨rfl, O4.out⟩

set_option maxRecDepth 100000 in
theorem lifted (os : Os) (started : os.Started) (H : Type) (enc : TypeId × Value → H) :
    ReturnsInHanded {} Tryd.checked os 9 .any (fun w args => (Rows.keyPrefixSpec.pre enc Tryd.prog Tryd.f9 Rows.keyPrefixRow.domain false w args ∧ laidMetH Tryd.prog Rows.keyPrefixRow.laid w) ∧ sizedMet enc Tryd.prog Tryd.f9 (OpenSpec.ofChange Rows.keyPrefixSpec) false w args)
      (Rows.keyPrefixSpec.post enc Tryd.prog Tryd.f9 false true false false) := by
  refine handed_door (C := Tryd.checked) (X := fun w _ => laidMetH Tryd.prog Rows.keyPrefixRow.laid w) own started (by kernel_rfl) Tryd.func9
    (ChangeSpec.witness_shaped (enc := enc) (C := Tryd.checked) (os := os) (X := fun w _ => laidMetH Tryd.prog Rows.keyPrefixRow.laid w) false (World.laidAll Tryd.prog os Rows.keyPrefixRow.laid) #[.slice none 0 0, .int .i64 0] 8 (World.laidAll_os _ _ _)
      (World.shaped_of_ZipB (by kernel_rfl) (by kernel_rfl)) (by kernel_rfl) (by kernel_rfl) (by kernel_rfl)
      (by rw [MakeChecks.laidMetH_plain _ _ _ (by kernel_rfl)]; exact laidMet_laidAll _ (by kernel_rfl) (by kernel_rfl))) ?_
  intro W base args ds gs before hval0 hW hsh
  have hlo := lo_of_shape hsh
  clear hsh
  have hval : ∀ (j : Nat) t v, Tryd.f9.params[j]? = some t → args[j]? = some v → Value.okWide Tryd.prog W .any base t v := hval0
  have hW' := hW
  obtain ⟨pp, pq, hA0, hV, rfl, hfz, hnd⟩ := hW
  have hA : DataW.TrodAll enc Tryd.prog W 0 (fun _ => true) true Tryd.f9.params.toList args.toList ds pp := hA0
  rw [Tryd.params9] at hA hval
  obtain ⟨v0, vs0, d0, ds0, p0, q0, hargs, rfl, rfl, h0, r0⟩ := trodAll_cons hA
  obtain ⟨v1, vs1, d1, ds1, p1, q1, rfl, rfl, rfl, h1, r1⟩ := trodAll_cons r0
  obtain ⟨rfl, rfl, rfl⟩ := trodAll_nil r1
  obtain rfl : args = #[v0, v1] := by cases args; simp_all
  obtain ⟨rfl, rfl⟩ := trodVars_none hV
  obtain ⟨sp0, sl0, sq0, rfl, hl0, hq0, hst0, hn0⟩ := open_vals (W := W) (v := v0) (by
    obtain ⟨a, len, cap, rfl⟩ := okWide_slice Tryd.underlying22 (hval 0 22 v0 rfl rfl)
    exact ⟨a, len, cap, rfl⟩) h0
  obtain ⟨a1, rfl, rfl, rfl, w1⟩ := open_int Tryd.underlying3 (hval 1 3 v1 rfl rfl) h1
  clear hA0 hval0
  simp only [List.append_nil] at hW'
  refine (walk sp0 sl0 sq0 a1 W hl0 hq0 hst0 hn0 (bounds_i64 w1) hlo).mono fun e W' ⟨he, hg⟩ => ?_
  subst he
  have hb : Below W.heap.size W W' := hg.below (Nat.le_refl _) (by simp)
  have hargs := (trodAll_cons_mk (Below.trod laidOut (by kernel_rfl) (of_decide_eq_true (by kernel_rfl)) h0 hb (fun x hx => hW'.lt x (by simp [hx]))) (trodAll_cons_mk (shut_int Tryd.underlying3 w1) trodAll_mk0))
  simp only [List.append_nil] at hargs
  exact ⟨_, rfl, _, _, _, [], _, [], hW', trodAll_cons_mk (shut_bool Tryd.underlying4 _) trodAll_mk0, hargs, rfl, hb.frame _, fun h => by cases h⟩

theorem over : Rows.KeyPrefixSaid :=
  OpenClaim.holds_of_wide 9 Tryd.f9 rfl rfl rfl rfl rfl rfl rfl ⟨rfl, rfl, rfl, rfl, rfl⟩ rfl rfl rfl rfl rfl (by kernel_rfl) Tryd.func9 (by kernel_rfl)
    (of_decide_eq_true (by kernel_rfl)) (by unfold Func.isWrapper; first | (rw [if_pos (by decide +kernel)]; kernel_rfl) | (rw [if_neg (by decide +kernel)]; exact ⟨rfl, rfl⟩))
    (fun os started H enc _ => lifted os started H enc)

theorem proved : Rows.KeyPrefixCardSaid :=
  Claim7.holds_tied_plain_at .later [] [.data, .pinned] true Rows.keyPrefixCard.stood.harness false over (fun _ h => by cases h) (by kernel_rfl) (fun _ h => by cases h) keyPrefix_row_tie rfl ⟨rfl, rfl⟩ (by kernel_rfl) rfl
    (fun f fn hf hfn => by
      obtain rfl : f = 9 := Option.some.inj ((show Tryd.prog.funcNamed "hedgerow/hedgerowlaw03.KeyPrefix" = some 9 by kernel_rfl).symm.trans hf) |>.symm
      obtain rfl : fn = Tryd.f9 := (Option.some.inj (Tryd.func9.symm.trans hfn)).symm
      exact ⟨by kernel_rfl, fun j t ht => by
        rw [Tryd.params9] at ht
        have hm : t ∈ [22, 3] := by simpa using Array.mem_of_getElem? ht
        have hall : ([22, 3].all fun u => !Tryd.prog.wantsStandIn u) = true := by kernel_rfl
        exact (show Tryd.prog.wantsStandIn t = false by simpa using List.all_eq_true.1 hall t hm)⟩)
    (by kernel_rfl)
#print axioms proved
end Go.Proofs.YtfnlgpngnknkmaaDoor.keyPrefix
