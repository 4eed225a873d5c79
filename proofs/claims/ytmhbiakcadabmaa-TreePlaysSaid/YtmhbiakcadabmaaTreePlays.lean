/-
  What is proved here: the statement TreePlays: keys that are put and deleted in any order, in trees of any fan: what each call tells, what is near each key, how deep a tree is; for every input.
  No condition.
-/
import Derived.Test.YtmhbiakcadabmaaPlay10
import Derived.Test.YtmhbiakcadabmaaNear
import Derived.ProofKit
import Derived.OpenShut
import Derived.HandedShaped
import Derived.Deep.DeepCutAuto
import Derived.Deep.CutBlock
namespace Go.Proofs.Ytmhbiakcadabmaa.treePlays
open Go.ChangeShapes Go.WideShapes Go.ChangeAt Go.RowKit Go.Proofs.Ytmhbiakcadabmaa
set_option linter.unusedVariables false

theorem bad (fan : Int) (p : Option Addr) (l : List StepD) (q : Nat) (w : World) (h : fan < 3 ∨ 64 < fan) :
    Calls Try.prog 8 #[.int .i64 fan, .slice p l.length q] w fun e w' => e = .returned (.bool true) ∧ Only [] w w' := by
  have HN := Lib.hid (new_bad (W := w) fan h)
  rcases h with h | h
  · go_enter Try.func8, Try.ntmps8
    go_wp2_with fail
    refine HN.out.mono ?_
    rintro e w2 ⟨rfl, rfl⟩
    go_wp2_with fail
    refine (wakes_any _).mono ?_
    rintro e w4 ⟨rfl, ho⟩
    have HO := Lib.hid ho; clear ho
    go_wp2_with fail
    go_ret
    exact ⟨rfl, HO.out⟩
  · have h3 : ¬ fan < 3 := by omega
    go_enter Try.func8, Try.ntmps8
    go_wp2_with fail
    refine HN.out.mono ?_
    rintro e w2 ⟨rfl, rfl⟩
    go_wp2_with fail
    refine (wakes_any _).mono ?_
    rintro e w4 ⟨rfl, ho⟩
    have HO := Lib.hid ho; clear ho
    go_wp2_with fail
    go_ret
    exact ⟨rfl, HO.out⟩

theorem bne_b (b : Bool) : (b != b) = false := by cases b <;> rfl

set_option maxRecDepth 100000 in
set_option maxHeartbeats 4000000 in
theorem good (f : Nat) (p : Option Addr) (l : List StepD) (q : Nat) (w : World) (hf3 : 3 ≤ f) (hf64 : f ≤ 64) (hl : ((l.length : Nat) : Int) ≤ 9223372036854775807) (hst : StepsAt w p l) :
    Calls Try.prog 8 #[.int .i64 f, .slice p l.length q] w fun e w' => e = .returned (.bool true) ∧ Only [] w w' := by
  have HST := Lib.hid hst; clear hst
  have mixed : Try.prog.follows .mixedOrders = true := by kernel_rfl
  have HN := Lib.hid (new_any (Sep.nil w) f hf3 hf64)
  have h3 : ¬ ((f : Int) < 3) := by omega
  have h64 : ¬ ((64 : Int) < f) := by omega
  cases hfr : fairB l with
  | false =>
    go_enter Try.func8, Try.ntmps8
    go_wp2_with fail
    refine HN.out.mono ?_
    rintro e w2 ⟨t, rfl, hs2⟩
    have HS2 := Lib.hid hs2; clear hs2
    go_wp2_with fail
    refine (fair_any p l q _ hl (HST.out.only HS2.out.old)).mono ?_
    rintro e w3 ⟨rfl, rfl⟩
    rw [hfr]
    clear hfr
    go_wp2_with fail
    refine (wakes_any _).mono ?_
    rintro e w4 ⟨rfl, ho⟩
    have HO := Lib.hid (HS2.out.old.trans ho (Within.nil _ _)); clear ho
    go_wp2_with fail
    go_ret
    exact ⟨rfl, HO.out⟩
  | true =>
    go_enter Try.func8, Try.ntmps8
    go_wp2_with fail
    refine HN.out.mono ?_
    rintro e w2 ⟨t, rfl, hs2⟩
    have HS2 := Lib.hid hs2; clear hs2
    go_wp2_with fail
    refine (fair_any p l q _ hl (HST.out.only HS2.out.old)).mono ?_
    rintro e w3 ⟨rfl, rfl⟩
    rw [hfr]
    clear hfr HN
    have hs3 := ref_new HS2.out
    obtain ⟨b0, hb0⟩ : ∃ b0, b0 = w2.heap.size := ⟨_, rfl⟩
    rw [← hb0] at hs3
    have HS3 := Lib.hid hs3
    have HB0 := Lib.hid hb0
    clear hs3 hb0 HS2
    go_wp2_with fail
    rw [← HB0.out]
    go_loopw [5, 8] (fun s5 s8 wr => ∃ (i : Nat) (L : List E) (t : Nat), i ≤ l.length ∧ s8 = .int .i64 i ∧ s5 = .pointer (some ⟨t, 0, none⟩) ∧ L.length ≤ 4096 ∧ Sep w wr [refRes b0 L, treeRes t f L]) (fun _ s8 _ => l.length - (intOf s8).toNat)
    case atStart => exact ⟨0, [], t, Nat.zero_le _, rfl, rfl, by simp, HS3.out⟩
    case round =>
      obtain ⟨i, L, t, hi, rfl, rfl, hL, hs⟩ := hrel
      have HT := Lib.hid hs; clear hs HS3
      by_cases hlt : i < l.length
      · obtain ⟨x, hx⟩ : ∃ x, l[i]? = some x := ⟨_, List.getElem?_eq_getElem hlt⟩
        obtain ⟨b', o, rfl, hb', hk1, hn1, c0, c1, c2⟩ := (HST.out.only HT.out.old) i x hx
        clear hx
        obtain ⟨kind, key, n⟩ := x
        simp only at hk1 hn1 c0 c1 c2
        have hs1 := HT.out.alloc #[.int .i64 kind, .string key, .int .i64 n] 35
        obtain ⟨g, hg⟩ : ∃ g, g = wr.heap.size := ⟨_, rfl⟩
        rw [← hg] at hs1
        go_upto_region 11 with fail
        rw [← hg]
        clear c0 c1 c2 hg HT
        generalize (wr.alloc (.cells #[.int .i64 kind, .string key, .int .i64 n] 35)) = V at *
        have HS1 := Lib.hid hs1; clear hs1
        have e0 := cell_of_block HS1.out.blk 0 (v := .int .i64 kind) rfl
        have e1 := cell_of_block HS1.out.blk 1 (v := .string key) rfl
        have e2 := cell_of_block HS1.out.blk 2 (v := .int .i64 n) rfl
        go_upto_block 2 with fail
        clear e0
        go_cut [5] (fun s5 wx => ∃ (t' : Nat) (L' : List E), s5 = .pointer (some ⟨t', 0, none⟩) ∧ L'.length ≤ 4096 ∧ Sep w wx [blkRes g (.cells #[.int .i64 kind, .string key, .int .i64 n] 35 (0, 0)), refRes b0 L', treeRes t' f L'])
        case first =>
          by_cases k0 : kind = 0
          · subst k0
            have hpl := putR_len (e := (key, n)) hL
            have HPT := tput_all HS1.out.up2 key n hL
            obtain ⟨pl, pb, pe, hp⟩ : ∃ a b c, putR L (key, n) = (a, b, c) := ⟨_, _, _, rfl⟩
            have HPR : ∀ {W l}, Sep w W (refRes b0 L :: l) → _ := fun {W l} h => rput_all (w := w) (W := W) (l := l) h key n hL
            rw [hp] at HPT hpl
            simp only [hp] at HPR
            simp only at HPT hpl
            have hbb := bne_b pb
            have hee : (pe != pe) = false := by simp
            go_wp2_with fail
            refine HPT.mono ?_
            rintro r w4 ⟨rfl, hs4⟩
            have HS4 := Lib.hid hs4; clear hs4
            have d1 := cell_of_block HS4.out.up1.blk 1 (v := .string key) rfl
            have d2 := cell_of_block HS4.out.up1.blk 2 (v := .int .i64 n) rfl
            clear e1 e2
            go_wp2_with fail
            refine (HPR HS4.out.up2).mono ?_
            rintro r w5 ⟨rfl, hs5⟩
            have HS5 := Lib.hid hs5; clear hs5 d1 d2
            go_wp2_with fail
            go_meet
            exact ⟨t, pl, rfl, hpl, HS5.out.up2⟩
          · have k0' : (kind == 0) = false := by rw [beq_eq_false_iff_ne]; exact k0
            clear k0
            by_cases k1 : kind = 1
            · subst k1
              have hdl : (delL L key).length ≤ 4096 := by rw [delL_length]; omega
              have HS0 := Lib.hid HS1.out.drew
              have HTD : Hid (∀ {W l}, Sep w W (treeRes t f L :: l) → _) := fun {W l} h => tdel_any (w := w) (W := W) (l := l) h key (by omega)
              have HRD : Hid (∀ {W l}, Sep w W (refRes b0 L :: l) → _) := fun {W l} h => rdel_all (w := w) (W := W) (l := l) h key hL
              generalize here L key = hb at HTD HRD
              have hbb := bne_b hb
              go_wp2_with fail
              go_region_held3 (fun w' => w'.cell? ⟨g, 1, none⟩ = some (.string key)) (first | go_keep | assumption) (first
                | (go_at_call 13; first
                  | (refine (HTD.out HS0.out.up2).mono ?_; rintro r w4 ⟨rfl, hs4⟩; have HT1 := Lib.hid hs4; have ke := cell_of_block HT1.out.up1.blk 1 (v := .string key) rfl; clear hs4)
                  | (refine (HTD.out HR1.out.up2).mono ?_; rintro r w5 ⟨rfl, hs5⟩; have HFIN := Lib.hid (show Sep w w5 [blkRes g (.cells #[.int .i64 1, .string key, .int .i64 n] 35 (0, 0)), refRes b0 (delL L key), treeRes t f (delL L key)] from hs5.up2.perm (.cons _ (.swap _ _ _))); have ke := cell_of_block HFIN.out.blk 1 (v := .string key) rfl; clear hs5))
                | (go_at_call 14; first
                  | (refine (HRD.out HS0.out.up1).mono ?_; rintro r w4 ⟨rfl, hs4⟩; have HR1 := Lib.hid hs4; have ke := cell_of_block HR1.out.up1.blk 1 (v := .string key) rfl; clear hs4)
                  | (refine (HRD.out HT1.out.up2).mono ?_; rintro r w5 ⟨rfl, hs5⟩; have HFIN := Lib.hid (show Sep w w5 [blkRes g (.cells #[.int .i64 1, .string key, .int .i64 n] 35 (0, 0)), refRes b0 (delL L key), treeRes t f (delL L key)] from hs5.up2); have ke := cell_of_block HFIN.out.blk 1 (v := .string key) rfl; clear hs5)))
              all_goals
                go_wp2_with fail
                go_meet
                exact ⟨t, _, rfl, hdl, HFIN.out⟩
            · have k1' : (kind == 1) = false := by rw [beq_eq_false_iff_ne]; exact k1
              clear k1
              by_cases k3 : kind = 3
              · subst k3
                go_wp2_with fail
                refine (tcopy_any HS1.out.up2.tree).mono ?_
                rintro r w4 ⟨c, rfl, hs4⟩
                have hs5 : Sep w w4 [blkRes g (.cells #[.int .i64 3, .string key, .int .i64 n] 35 (0, 0)), refRes b0 L, treeRes c f L] := ((HS1.out.joinNew hs4).up3.tail).dn2
                have HS5 := Lib.hid hs5; clear hs4 hs5
                go_wp2_with fail
                go_meet
                exact ⟨c, L, rfl, hL, HS5.out⟩
              · have k3' : (kind == 3) = false := by rw [beq_eq_false_iff_ne]; exact k3
                clear k3
                go_wp2_with fail
                go_meet
                exact ⟨t, L, rfl, hL, HS1.out⟩
        case rest =>
          obtain ⟨t', L', rfl, hL', hs2⟩ := hcut
          have HS2 := Lib.hid hs2; clear hs2 HS1 e1 e2
          obtain ⟨V2, rfl⟩ : ∃ V2, V2 = wc := ⟨_, rfl⟩
          obtain ⟨rp, rq, hk0, _⟩ := HS2.out.up1.ref.cell0
          have e1 := cell_of_block HS2.out.blk 1 (v := .string key) rfl
          have HTR := Lib.hid HS2.out.up2.tree
          have HRF := Lib.hid HS2.out.up1.ref
          have HNR := Lib.hid (near_any (HTR.out.only (Only.drew [] V2)) (HRF.out.only (Only.drew [] V2)) hL' key)
          by_cases h0 : L'.length = 0
          · have HNIL := Lib.hid (List.eq_nil_of_length_eq_zero h0)
            have hlz : ((L'.length : Int) == 0) = true := by rw [beq_iff_eq]; omega
            have hly : (L'.length == 0) = true := by rw [beq_iff_eq]; omega
            clear h0
            have HKA := Lib.hid hk0
            go_wp2_with fail
            go_region_held3 (fun w' => w'.cell? ⟨g, 1, none⟩ = some (.string key) ∧ w'.cell? ⟨b0, 0, none⟩ = some (.slice rp L'.length rq)) (first | go_keep | (refine ⟨?_, ?_⟩ <;> assumption)) (first
              | (go_at_call 27; refine HNR.out.mono ?_; rintro r w4 ⟨rfl, ho4⟩; have o4 := (Only.drew [] V2).trans ho4 (Within.nil _ _); have O4 := Lib.hid o4; have k4 := (o4.cell (block_lt_of_cell hk0) (by simp)).trans hk0; have e4 := (o4.cell (block_lt_of_cell e1) (by simp)).trans e1; clear ho4 o4)
              | (go_at_call 28; refine (depth_any (HTR.out.only O4.out) (by omega)).mono ?_; rintro r w5 ⟨⟨d, rfl, hd, hd5⟩, rfl⟩; have HD := Lib.hid hd; have hdz : ((d : Int) == 0) = true := (by rw [beq_iff_eq]; have := hd.1 HNIL.out; omega); have hdy : (d == 0) = true := (by rw [beq_iff_eq]; exact hd.1 HNIL.out); clear hd)
              | (go_at_call 29; refine (rdepth_any L'.length f hf3 hf64 (by omega)).mono ?_; rintro r w6 ⟨⟨e, rfl, he⟩, rfl⟩; have hle : decide (e < d) = false := (by have := (depth_le hf3 HD.out he).1; rw [decide_eq_false_iff_not]; omega); clear he))
            all_goals
              go_wp2_with fail
              go_roundw
              case rel => exact ⟨i + 1, L', t', by omega, by go_num, rfl, hL', (HS2.out.tail).only O4.out⟩
              case measure => simp [intOf]; omega
          · have HNIL : Hid (L' ≠ []) := fun h => h0 (by rw [h]; rfl)
            have hlz : ((L'.length : Int) == 0) = false := by rw [beq_eq_false_iff_ne]; omega
            have hly : (L'.length == 0) = false := by rw [beq_eq_false_iff_ne]; omega
            clear h0
            have HKA := Lib.hid hk0
            go_wp2_with fail
            go_region_held3 (fun w' => w'.cell? ⟨g, 1, none⟩ = some (.string key) ∧ w'.cell? ⟨b0, 0, none⟩ = some (.slice rp L'.length rq)) (first | go_keep | (refine ⟨?_, ?_⟩ <;> assumption)) (first
              | (go_at_call 27; refine HNR.out.mono ?_; rintro r w4 ⟨rfl, ho4⟩; have o4 := (Only.drew [] V2).trans ho4 (Within.nil _ _); have O4 := Lib.hid o4; have k4 := (o4.cell (block_lt_of_cell hk0) (by simp)).trans hk0; have e4 := (o4.cell (block_lt_of_cell e1) (by simp)).trans e1; clear ho4 o4)
              | (go_at_call 28; refine (depth_any (HTR.out.only O4.out) (by omega)).mono ?_; rintro r w5 ⟨⟨d, rfl, hd, hd5⟩, rfl⟩; have hd1 : 1 ≤ d := (hd.2 HNIL.out).1; have HD := Lib.hid hd; have hdz : ((d : Int) == 0) = false := (by rw [beq_eq_false_iff_ne]; omega); have hdy : (d == 0) = false := (by rw [beq_eq_false_iff_ne]; omega); clear hd)
              | (go_at_call 29; refine (rdepth_any L'.length f hf3 hf64 (by omega)).mono ?_; rintro r w6 ⟨⟨e, rfl, he⟩, rfl⟩; have hle : decide (e < d) = false := (by have := (depth_le hf3 HD.out he).1; rw [decide_eq_false_iff_not]; omega); clear he))
            all_goals
              go_wp2_with fail
              go_roundw
              case rel => exact ⟨i + 1, L', t', by omega, by go_num, rfl, hL', (HS2.out.tail).only O4.out⟩
              case measure => simp [intOf]; omega
      · obtain ⟨W2, rfl⟩ : ∃ W2, W2 = wr := ⟨_, rfl⟩
        obtain ⟨rp, rq, hk0, hents⟩ := HT.out.ref.cell0
        have HEN := Lib.hid hents; clear hents
        have hra := rangeL_all L hL
        have HR := Lib.hid (range_any (HT.out.up1.drew.tree) (by omega) ⟨#[]⟩ ⟨#[]⟩ 4096)
        rw [hra] at HR
        clear hra
        go_wp2_with fail
        go_region_held3 (fun w' => w'.cell? ⟨b0, 0, none⟩ = some (.slice rp L.length rq)) (first | go_keep | assumption) (first
          | (go_at_call 18; refine HR.out.mono ?_; rintro r w4 ⟨pr2, qr2, rfl, hs4⟩; have HS4 := Lib.hid hs4; have o4 := (Only.drew [] W2).trans hs4.old (Within.nil _ _); have O4 := Lib.hid o4; have k4 := (o4.cell (block_lt_of_cell hk0) (by simp)).trans hk0; clear hs4 o4)
          | (go_at_call 17; refine (same_any (entsAt_row HS4.out.row) (HEN.out.only O4.out) (by omega) (by omega)).mono ?_; rintro r w5 ⟨rfl, ho5⟩; rw [decide_eq_true rfl]; have k5 := (ho5.cell (block_lt_of_cell k4) (by simp)).trans k4; have O5 := Lib.hid (O4.out.trans ho5 (Within.nil _ _)); clear ho5)
          | (go_at_call 12; refine (wakes_any _).mono ?_; rintro r w7 ⟨rfl, ho7⟩; have O7 := Lib.hid (HT.out.old.trans (O5.out.trans ho7 (Within.nil _ _)) (Within.nil _ _)); have k7 := (ho7.cell (block_lt_of_cell k5) (by simp)).trans k5; clear ho7))
        all_goals
          go_wp2_with fail
          go_ret
          exact ⟨rfl, O7.out⟩

theorem walk (fan : Int) (p : Option Addr) (l : List StepD) (q : Nat) (w : World) (hf : -9223372036854775808 ≤ fan ∧ fan ≤ 9223372036854775807) (hl : ((l.length : Nat) : Int) ≤ 9223372036854775807) (hst : StepsAt w p l) :
    Calls Try.prog 8 #[.int .i64 fan, .slice p l.length q] w fun e w' => e = .returned (.bool true) ∧ Only [] w w' := by
  by_cases h : fan < 3 ∨ 64 < fan
  · exact bad fan p l q w h
  · obtain ⟨f, rfl⟩ : ∃ f : Nat, fan = (f : Int) := ⟨fan.toNat, by omega⟩
    exact good f p l q w (by omega) (by omega) hl hst

theorem own : ownKnob Try.prog.godebug = none := by kernel_rfl
theorem laidOut : laidOutB Try.prog = true := by kernel_rfl

set_option maxRecDepth 100000 in
theorem lifted (os : Os) (started : os.Started) (H : Type) (enc : TypeId × Value → H) :
    ReturnsInHanded {} Try.checked os 8 .any (Rows.treePlaysSpec.pre6 enc Try.prog Try.f8 Rows.treePlaysRow.domain false) (Rows.treePlaysSpec.post enc Try.prog Try.f8 false true false false) := by
  refine returnsInHanded_of_change (C := Try.checked) own started (by kernel_rfl) Try.func8
    (ChangeSpec.witness6 (enc := enc) (C := Try.checked) false ⟨#[], #[.int .i64 0, .slice none 0 0], []⟩ 8 (by kernel_rfl) (by kernel_rfl) (by kernel_rfl) (by kernel_rfl)) ?_
  intro W base args ds gs before hval0 hW hcnd _
  have hval : ∀ (j : Nat) t v, Try.f8.params[j]? = some t → args[j]? = some v → Value.okWide Try.prog W .any base t v := hval0
  have hW' := hW
  obtain ⟨pp, pq, hA0, hV, rfl, hfz, hnd⟩ := hW
  have hA : DataW.TrodAll enc Try.prog W 0 (fun _ => true) true Try.f8.params.toList args.toList ds pp := hA0
  rw [Try.params8] at hA hval
  obtain ⟨v0, vs0, d0, ds0, p0, q0, hargs, rfl, rfl, h0, r0⟩ := trodAll_cons hA
  obtain ⟨v1, vs1, d1, ds1, p1, q1, rfl, rfl, rfl, h1, r1⟩ := trodAll_cons r0
  obtain ⟨rfl, rfl, rfl⟩ := trodAll_nil r1
  obtain rfl : args = #[v0, v1] := by cases args; simp_all
  obtain ⟨rfl, rfl⟩ := trodVars_none hV
  obtain ⟨a0, rfl, rfl, rfl, w0⟩ := open_int Try.underlying3 (hval 0 3 v0 rfl rfl) h0
  obtain ⟨sp1, sl1, sq1, rfl, hl1, hst1⟩ := open_steps (W := W) (v := v1) (by
    obtain ⟨a, len, cap, rfl⟩ := okWide_slice Try.underlying22 (hval 1 22 v1 rfl rfl)
    exact ⟨a, len, cap, rfl⟩) h1
  clear hA0 hval0
  simp only [List.append_nil] at hW'
  refine (walk a0 sp1 sl1 sq1 W (bounds_i64 w0) hl1 hst1).mono fun e W' ⟨he, hg⟩ => ?_
  subst he
  have hb : Below W.heap.size W W' := hg.below (Nat.le_refl _) (by simp)
  have hargs := (trodAll_cons_mk (shut_int Try.underlying3 w0) (trodAll_cons_mk (Below.trod laidOut (by kernel_rfl) (of_decide_eq_true (by kernel_rfl)) h1 hb (fun x hx => hW'.lt x (by simp [hx]))) trodAll_mk0))
  simp only [List.append_nil] at hargs
  exact ⟨_, rfl, _, _, _, [], _, [], hW', trodAll_cons_mk (shut_bool Try.underlying4 _) trodAll_mk0, hargs, rfl, hb.frame _, fun h => by cases h⟩

theorem over : Rows.treePlaysRow.holds Try.pinned (OpenSpec.ofChange Rows.treePlaysSpec) :=
  OpenClaim.holds_of_wide 8 Try.f8 rfl rfl rfl rfl rfl rfl rfl ⟨rfl, rfl, rfl, rfl, rfl⟩ rfl rfl rfl rfl rfl (by kernel_rfl) Try.func8 (by kernel_rfl)
    (of_decide_eq_true (by kernel_rfl)) (by unfold Func.isWrapper; first | (rw [if_pos (by decide +kernel)]; kernel_rfl) | (rw [if_neg (by decide +kernel)]; exact ⟨rfl, rfl⟩))
    (fun os started H enc _ => lifted os started H enc)

theorem proved : Rows.TreePlaysSaid := over
#print axioms proved
end Go.Proofs.Ytmhbiakcadabmaa.treePlays
