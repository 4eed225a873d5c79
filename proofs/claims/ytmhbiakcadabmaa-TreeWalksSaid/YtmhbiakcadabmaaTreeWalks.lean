/-
  What is proved here: the statement TreeWalks: going from key to key forwards meets each key once, rising; backwards likewise, falling; for every input.
  No condition.
-/
import Derived.Test.YtmhbiakcadabmaaPlay10
import Derived.ProofKit
import Derived.OpenShut
import Derived.HandedShaped
import Derived.Deep.DeepCutAuto
namespace Go.Proofs.Ytmhbiakcadabmaa.treeWalks
open Go.ChangeShapes Go.WideShapes Go.ChangeAt Go.RowKit Go.Proofs.Ytmhbiakcadabmaa
set_option linter.unusedVariables false

set_option maxRecDepth 100000 in
set_option maxHeartbeats 4000000 in
theorem walk (p : Option Addr) (l : List StepD) (q : Nat) (w : World) (hl : ((l.length : Nat) : Int) ≤ 9223372036854775807) (hst : StepsAt w p l) :
    Calls Try.prog 7 #[.slice p l.length q] w fun e w' => e = .returned (.bool true) ∧ Only [] w w' := by
  have HST := Lib.hid hst; clear hst
  have mixed : Try.prog.follows .mixedOrders = true := by kernel_rfl
  have hn := new_any (Sep.nil w) 3 (by omega) (by omega)
  rw [show ((3 : Nat) : Int) = 3 from rfl] at hn
  have HN := Lib.hid hn; clear hn
  cases hf : fairB l with
  | false =>
    go_enter Try.func7, Try.ntmps7
    go_wp2_with fail
    refine HN.out.mono ?_
    rintro e w2 ⟨t, rfl, hs2⟩
    have HS2 := Lib.hid hs2; clear hs2
    go_wp2_with fail
    refine (fair_any p l q _ hl (HST.out.only HS2.out.old)).mono ?_
    rintro e w3 ⟨rfl, rfl⟩
    rw [hf]
    clear hf
    go_wp2_with fail
    refine (wakes_any _).mono ?_
    rintro e w4 ⟨rfl, ho⟩
    have HO := Lib.hid (HS2.out.old.trans ho (Within.nil _ _)); clear ho
    go_wp2_with fail
    go_ret
    exact ⟨rfl, HO.out⟩
  | true =>
    have HF := Lib.hid hf
    obtain ⟨hlen, _⟩ := fair_true hf
    go_enter Try.func7, Try.ntmps7
    go_wp2_with fail
    refine HN.out.mono ?_
    rintro e w2 ⟨t, rfl, hs2⟩
    have HS2 := Lib.hid hs2; clear hs2
    go_wp2_with fail
    refine (fair_any p l q _ hl (HST.out.only HS2.out.old)).mono ?_
    rintro e w3 ⟨rfl, rfl⟩
    rw [hf]
    clear hf HN
    have hs3 := ref_new HS2.out
    obtain ⟨b0, hb0⟩ : ∃ b0, b0 = w2.heap.size := ⟨_, rfl⟩
    rw [← hb0] at hs3
    have HS3 := Lib.hid hs3
    have HB0 := Lib.hid hb0
    clear hs3 hb0 HS2
    go_wp2_with fail
    rw [← HB0.out]
    go_loopw [6] (fun s6 wr => ∃ (i : Nat) (L : List E), i ≤ l.length ∧ s6 = .int .i64 i ∧ L.length ≤ 4096 ∧ Short L 1000 ∧ Sep w wr [refRes b0 L, treeRes t 3 L]) (fun s6 _ => l.length - (intOf s6).toNat)
    case atStart => exact ⟨0, [], Nat.zero_le _, rfl, by simp, fun x hx => by simp at hx, HS3.out⟩
    case round =>
      obtain ⟨i, L, hi, rfl, hL, hsh, hs⟩ := hrel
      have HT := Lib.hid hs; clear hs HS3
      have HSH := Lib.hid hsh; clear hsh
      by_cases hlt : i < l.length
      · obtain ⟨x, hx⟩ : ∃ x, l[i]? = some x := ⟨_, List.getElem?_eq_getElem hlt⟩
        obtain ⟨b', o, rfl, hb', _, hn1, c0, c1, c2⟩ := (HST.out.only HT.out.old) i x hx
        have HX := Lib.hid hx; clear hx
        have hL2 := stepR_len x hL
        by_cases hbig : 1000 < x.key.size
        · go_wp2_with fail
          refine (wakes_any _).mono ?_
          rintro e w4 ⟨rfl, ho⟩
          have HO := Lib.hid (HT.out.old.trans ho (Within.nil _ _)); clear ho
          go_wp2_with fail
          go_ret
          exact ⟨rfl, HO.out⟩
        · have HSH2 := Lib.hid (HSH.out.stepR (HT.out.up1.sortedL) (x := x) (by omega))
          obtain ⟨kind, key, n⟩ := x
          simp only at hn1 c0 c1 c2 hbig
          by_cases k1 : kind = 1
          · subst k1
            have HE := Lib.hid (show stepR L ⟨1, key, n⟩ = delL L key from if_pos rfl)
            rw [HE.out] at hL2 HSH2
            go_wp2_with fail
            refine (tdel_any HT.out.up1 key (by omega)).mono ?_
            rintro r w4 ⟨rfl, hs4⟩
            have HS4 := Lib.hid hs4
            obtain ⟨kk0, kk1, kk2⟩ := (HST.out.only hs4.old).at HX.out
            clear hs4
            go_wp2_with fail
            refine (rdel_all HS4.out.up1 key hL).mono ?_
            rintro r w5 ⟨rfl, hs5⟩
            have HS5 := Lib.hid hs5; clear hs5
            go_wp2_with fail
            go_roundw
            case rel => exact ⟨i + 1, delL L key, by omega, by go_num, hL2, HSH2.out, HS5.out⟩
            case measure => simp [intOf]; omega
          · have HE := Lib.hid (show stepR L ⟨kind, key, n⟩ = (putR L (key, n)).1 from if_neg k1)
            rw [HE.out] at hL2 HSH2
            have k1' : (kind == 1) = false := by rw [beq_eq_false_iff_ne]; exact k1
            clear k1
            go_upto_region 13 with fail
            go_cut [] (fun wx => Sep w wx [treeRes t 3 (putR L (key, n)).1, refRes b0 L])
            case first =>
              go_region_held3 (fun w' => w'.cell? ⟨b', o + i * 3 + 1, none⟩ = some (.string key) ∧ w'.cell? ⟨b', o + i * 3 + 2, none⟩ = some (.int .i64 n)) (first | go_keep | (refine ⟨?_, ?_⟩ <;> assumption)) (first | (go_at_call 15; refine (tput_all (HT.out.up1.drew) key n hL).mono ?_; rintro r w4 ⟨rfl, hs4⟩; have HS4 := Lib.hid hs4; obtain ⟨kk0, kk1, kk2⟩ := (HST.out.only hs4.old).at HX.out; clear hs4))
              all_goals
                go_wp2_with fail
                go_meet
                exact HS4.out
            case rest =>
              have HS5 := Lib.hid hcut
              obtain ⟨kk0, kk1, kk2⟩ := (HST.out.only hcut.old).at HX.out
              clear hcut c0 c1 c2
              go_wp2_with fail
              go_region_held3 (fun w' => w'.cell? ⟨b', o + i * 3 + 1, none⟩ = some (.string key) ∧ w'.cell? ⟨b', o + i * 3 + 2, none⟩ = some (.int .i64 n)) (first | go_keep | (refine ⟨?_, ?_⟩ <;> assumption)) (first | (go_at_call 16; refine (rput_all (HS5.out.up1.drew) key n hL).mono ?_; rintro r w4 ⟨rfl, hs4⟩; have HS6 := Lib.hid hs4; obtain ⟨kk0, kk1, kk2⟩ := (HST.out.only hs4.old).at HX.out; clear hs4))
              all_goals
                go_wp2_with fail
                go_roundw
                case rel => exact ⟨i + 1, (putR L (key, n)).1, by omega, by go_num, hL2, HSH2.out, HS6.out⟩
                case measure => simp [intOf]; omega
      · clear HST HF
        obtain ⟨W1, rfl⟩ : ∃ W1, W1 = wr := ⟨_, rfl⟩
        have hs0 := HT.out.up1.sortedL
        have HSO := Lib.hid hs0; clear hs0
        obtain ⟨rp, rq, hk0, hents⟩ := HT.out.ref.cell0
        have HK0 := Lib.hid hk0; have HEN := Lib.hid hents; clear hents hk0
        have O3 := Lib.hid HT.out.old
        have HTR := Lib.hid HT.out.up1.tree; clear HT
        go_wp2_with fail
        go_loopw [7, 8] (fun s7 s8 wx => ∃ (k : Nat) (at' : ByteArray), k ≤ L.length ∧ s8 = .int .i64 k ∧ s7 = .string at' ∧ below L at' = k ∧ at'.size ≤ 1001 ∧ Only [] W1 wx) (fun _ s8 _ => L.length - (intOf s8).toNat)
        case atStart => exact ⟨0, ⟨#[]⟩, Nat.zero_le _, rfl, rfl, below_empty L, Nat.zero_le _, Only.refl _ _⟩
        case round =>
          obtain ⟨k, at', hk, rfl, rfl, hb, hsz, ho⟩ := hrel
          have HB := Lib.hid hb; clear hb
          have HO := Lib.hid ho; clear ho
          have k0 := (HO.out.cell (block_lt_of_cell HK0.out) (by simp)).trans HK0.out
          by_cases hlt2 : k < L.length
          · obtain ⟨x, hx⟩ : ∃ x, L[k]? = some x := ⟨_, List.getElem?_eq_getElem hlt2⟩
            have HAT := Lib.hid ((atL_here HB.out).trans hx)
            have HNX := Lib.hid (below_next HSO.out hx)
            have hxs := HSH.out x (List.mem_of_getElem? hx)
            have HX := Lib.hid hx; clear hx
            go_wp2_with fail
            clear k0
            refine (at_any (HTR.out.only HO.out) at').mono ?_
            rintro r w4 ⟨rfl, ho4⟩
            have HO4 := Lib.hid (HO.out.trans ho4 (Within.nil _ _)); clear ho4
            rw [HAT.out]
            simp only [trio]
            have k0 := (HO4.out.cell (block_lt_of_cell HK0.out) (by simp)).trans HK0.out
            obtain ⟨be, oe, rfl, _, a0, a1⟩ := (HEN.out.only HO4.out) k x HX.out
            have t1 : (x.1.toList == x.1.toList) = true := beq_self_eq_true _
            have t2 : (x.1.toList != x.1.toList) = false := by rw [bne, t1]; rfl
            have t3 : (x.2 != x.2) = false := by simp
            have HNS : Hid ((x.1 ++ (⟨#[0]⟩ : ByteArray)).size ≤ 1001) := by show _ ≤ _; rw [ByteArray.size_append]; exact Nat.add_le_add_right hxs 1
            go_wp2_with fail
            go_roundw
            case rel => exact ⟨k + 1, _, by omega, by go_num, rfl, HNX.out, HNS.out, HO4.out⟩
            case measure => simp [intOf]; omega
          · have hkl : k = L.length := by omega
            subst hkl
            have HAT := Lib.hid ((atL_here HB.out).trans (List.getElem?_eq_none (Nat.le_refl _)))
            go_wp2_with fail
            refine (at_any (HTR.out.only HO.out) at').mono ?_
            rintro r w4 ⟨rfl, ho4⟩
            have HO4 := Lib.hid (HO.out.trans ho4 (Within.nil _ _)); clear ho4
            rw [HAT.out]
            simp only [trio]
            have k4 := (HO4.out.cell (block_lt_of_cell HK0.out) (by simp)).trans HK0.out
            clear k0
            go_wp2_with fail
            clear k4
            go_loopw [7, 15] (fun s7 s15 wy => ∃ (k : Nat) (at' : ByteArray), k ≤ L.length ∧ s15 = .int .i64 ((k : Int) - 1) ∧ s7 = .string at' ∧ below L at' = k ∧ Only [] W1 wy) (fun _ s15 _ => ((intOf s15) + 1).toNat)
            case atStart => exact ⟨L.length, at', Nat.le_refl _, by go_num, rfl, HB.out, HO4.out⟩
            case round =>
              obtain ⟨m, bt, hm, rfl, rfl, hb2, ho2⟩ := hrel
              have HB2 := Lib.hid hb2; clear hb2
              have HO2 := Lib.hid ho2; clear ho2 HO4 HO HB HAT
              by_cases hm0 : 0 < m
              · obtain ⟨x, hx⟩ : ∃ x, L[m - 1]? = some x := ⟨_, List.getElem?_eq_getElem (by omega)⟩
                have HBF := Lib.hid (befL_here (i := m - 1) (by rw [HB2.out]; omega) hx)
                have HNX := Lib.hid (below_self HSO.out hx)
                have HX := Lib.hid hx; clear hx
                go_wp2_with fail
                refine (before_any (HTR.out.only HO2.out) bt).mono ?_
                rintro r w5 ⟨rfl, ho5⟩
                have HO5 := Lib.hid (HO2.out.trans ho5 (Within.nil _ _)); clear ho5
                rw [HBF.out]
                simp only [trio]
                have k5 := (HO5.out.cell (block_lt_of_cell HK0.out) (by simp)).trans HK0.out
                obtain ⟨be, oe, rfl, _, a0, a1⟩ := (HEN.out.only HO5.out) (m - 1) x HX.out
                have hw1 : ((m - 1 : Nat) : Int) = (m : Int) - 1 := by omega
                have hw2 : ((m : Int) - 1).toNat = m - 1 := by omega
                have t1 : (x.1.toList == x.1.toList) = true := beq_self_eq_true _
                have t2 : (x.1.toList != x.1.toList) = false := by rw [bne, t1]; rfl
                have t3 : (x.2 != x.2) = false := by simp
                go_wp2_with fail
                go_roundw
                case rel => exact ⟨m - 1, x.1, by omega, by go_num, rfl, HNX.out, HO5.out⟩
                case measure => simp [intOf]; omega
              · have hm1 : m = 0 := by omega
                subst hm1
                have HBF := Lib.hid (befL_none HB2.out)
                go_wp2_with fail
                refine (before_any (HTR.out.only HO2.out) bt).mono ?_
                rintro r w5 ⟨rfl, ho5⟩
                have HO5 := Lib.hid (O3.out.trans (HO2.out.trans ho5 (Within.nil _ _)) (Within.nil _ _)); clear ho5
                rw [HBF.out]
                simp only [trio]
                go_wp2_with fail
                refine (wakes_any _).mono ?_
                rintro e w10 ⟨rfl, ho⟩
                have HF := Lib.hid (HO5.out.trans ho (Within.nil _ _)); clear ho
                go_wp2_with fail
                go_ret
                exact ⟨rfl, HF.out⟩

theorem own : ownKnob Try.prog.godebug = none := by kernel_rfl
theorem laidOut : laidOutB Try.prog = true := by kernel_rfl

set_option maxRecDepth 100000 in
theorem lifted (os : Os) (started : os.Started) (H : Type) (enc : TypeId × Value → H) :
    ReturnsInHanded {} Try.checked os 7 .any (Rows.treeWalksSpec.pre6 enc Try.prog Try.f7 Rows.treeWalksRow.domain false) (Rows.treeWalksSpec.post enc Try.prog Try.f7 false true false false) := by
  refine returnsInHanded_of_change (C := Try.checked) own started (by kernel_rfl) Try.func7
    (ChangeSpec.witness6 (enc := enc) (C := Try.checked) false ⟨#[], #[.slice none 0 0], []⟩ 8 (by kernel_rfl) (by kernel_rfl) (by kernel_rfl) (by kernel_rfl)) ?_
  intro W base args ds gs before hval0 hW hcnd _
  have hval : ∀ (j : Nat) t v, Try.f7.params[j]? = some t → args[j]? = some v → Value.okWide Try.prog W .any base t v := hval0
  have hW' := hW
  obtain ⟨pp, pq, hA0, hV, rfl, hfz, hnd⟩ := hW
  have hA : DataW.TrodAll enc Try.prog W 0 (fun _ => true) true Try.f7.params.toList args.toList ds pp := hA0
  rw [Try.params7] at hA hval
  obtain ⟨v0, vs0, d0, ds0, p0, q0, hargs, rfl, rfl, h0, r0⟩ := trodAll_cons hA
  obtain ⟨rfl, rfl, rfl⟩ := trodAll_nil r0
  obtain rfl : args = #[v0] := by cases args; simp_all
  obtain ⟨rfl, rfl⟩ := trodVars_none hV
  obtain ⟨sp0, sl0, sq0, rfl, hl0, hst0⟩ := open_steps (W := W) (v := v0) (by
    obtain ⟨a, len, cap, rfl⟩ := okWide_slice Try.underlying22 (hval 0 22 v0 rfl rfl)
    exact ⟨a, len, cap, rfl⟩) h0
  clear hA0 hval0
  simp only [List.append_nil] at hW'
  refine (walk sp0 sl0 sq0 W hl0 hst0).mono fun e W' ⟨he, hg⟩ => ?_
  subst he
  have hb : Below W.heap.size W W' := hg.below (Nat.le_refl _) (by simp)
  have hargs := (trodAll_cons_mk (Below.trod laidOut (by kernel_rfl) (of_decide_eq_true (by kernel_rfl)) h0 hb (fun x hx => hW'.lt x (by simp [hx]))) trodAll_mk0)
  simp only [List.append_nil] at hargs
  exact ⟨_, rfl, _, _, _, [], _, [], hW', trodAll_cons_mk (shut_bool Try.underlying4 _) trodAll_mk0, hargs, rfl, hb.frame _, fun h => by cases h⟩

theorem over : Rows.treeWalksRow.holds Try.pinned (OpenSpec.ofChange Rows.treeWalksSpec) :=
  OpenClaim.holds_of_wide 7 Try.f7 rfl rfl rfl rfl rfl rfl rfl ⟨rfl, rfl, rfl, rfl, rfl⟩ rfl rfl rfl rfl rfl (by kernel_rfl) Try.func7 (by kernel_rfl)
    (of_decide_eq_true (by kernel_rfl)) (by unfold Func.isWrapper; first | (rw [if_pos (by decide +kernel)]; kernel_rfl) | (rw [if_neg (by decide +kernel)]; exact ⟨rfl, rfl⟩))
    (fun os started H enc _ => lifted os started H enc)

theorem proved : Rows.TreeWalksSaid := over
#print axioms proved
end Go.Proofs.Ytmhbiakcadabmaa.treeWalks
