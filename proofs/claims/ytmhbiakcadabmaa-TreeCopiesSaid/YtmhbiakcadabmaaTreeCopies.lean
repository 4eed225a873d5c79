/-
  What is proved here: the statement TreeCopies: a copy is a tree of its own: what is done to the one is not seen in the other; for every input.
  No condition.
-/
import Derived.Test.YtmhbiakcadabmaaPlay10
import Derived.ProofKit
import Derived.OpenShut
import Derived.HandedShaped
import Derived.Deep.DeepCutAuto
namespace Go.Proofs.Ytmhbiakcadabmaa.treeCopies
open Go.ChangeShapes Go.WideShapes Go.ChangeAt Go.RowKit Go.Proofs.Ytmhbiakcadabmaa
set_option linter.unusedVariables false

set_option maxRecDepth 100000 in
set_option maxHeartbeats 4000000 in
theorem walk (p : Option Addr) (l : List StepD) (q : Nat) (p2 : Option Addr) (more : List StepD) (q2 : Nat) (w : World) (hl : ((l.length : Nat) : Int) ≤ 9223372036854775807) (hst : StepsAt w p l) (hl2 : ((more.length : Nat) : Int) ≤ 9223372036854775807) (hst2 : StepsAt w p2 more) :
    Calls Try.prog 6 #[.slice p l.length q, .slice p2 more.length q2] w fun e w' => e = .returned (.bool true) ∧ Only [] w w' := by
  have HST := Lib.hid hst; clear hst
  have HST2 := Lib.hid hst2; clear hst2
  have mixed : Try.prog.follows .mixedOrders = true := by kernel_rfl
  have hn := new_any (Sep.nil w) 5 (by omega) (by omega)
  rw [show ((5 : Nat) : Int) = 5 from rfl] at hn
  have HN := Lib.hid hn; clear hn
  go_enter Try.func6, Try.ntmps6
  go_wp2_with fail
  refine HN.out.mono ?_
  rintro e w2 ⟨t, rfl, hs2⟩
  have HS2 := Lib.hid hs2; clear hs2 HN
  go_upto_region 2 with fail
  go_cut [28] (fun s28 wx => (∃ c : Bool, s28 = .bool c ∧ (c = false → fairB l = true ∧ fairB more = true)) ∧ w2 = wx)
  case first =>
    cases hf : fairB l with
    | false =>
      go_wp2_with fail
      refine (fair_any p l q _ hl (HST.out.only HS2.out.old)).mono ?_
      rintro e w3 ⟨rfl, rfl⟩
      rw [hf]
      go_wp2_with fail
      go_meet
      exact ⟨⟨true, rfl, fun h => by cases h⟩, rfl⟩
    | true =>
      cases hg : fairB more with
      | false =>
        go_wp2_with fail
        refine (fair_any p l q _ hl (HST.out.only HS2.out.old)).mono ?_
        rintro e w3 ⟨rfl, rfl⟩
        rw [hf]
        go_wp2_with fail
        refine (fair_any p2 more q2 _ hl2 (HST2.out.only HS2.out.old)).mono ?_
        rintro e w3 ⟨rfl, rfl⟩
        rw [hg]
        go_wp2_with fail
        go_meet
        exact ⟨⟨true, rfl, fun h => by cases h⟩, rfl⟩
      | true =>
        go_wp2_with fail
        refine (fair_any p l q _ hl (HST.out.only HS2.out.old)).mono ?_
        rintro e w3 ⟨rfl, rfl⟩
        rw [hf]
        go_wp2_with fail
        refine (fair_any p2 more q2 _ hl2 (HST2.out.only HS2.out.old)).mono ?_
        rintro e w3 ⟨rfl, rfl⟩
        rw [hg]
        go_wp2_with fail
        go_meet
        exact ⟨⟨false, rfl, fun _ => ⟨hf, hg⟩⟩, rfl⟩
  case rest =>
    obtain ⟨⟨c, rfl, hc⟩, rfl⟩ := hcut
    cases c with
    | true =>
      clear hc
      go_wp2_with fail
      refine (wakes_any _).mono ?_
      rintro e w4 ⟨rfl, ho⟩
      have HO := Lib.hid (HS2.out.old.trans ho (Within.nil _ _)); clear ho
      go_wp2_with fail
      go_ret
      exact ⟨rfl, HO.out⟩
    | false =>
      clear hc
      have hs3 := ref_new HS2.out
      obtain ⟨b0, hb0⟩ : ∃ b0, b0 = w2.heap.size := ⟨_, rfl⟩
      rw [← hb0] at hs3
      have HS3 := Lib.hid hs3
      have HB0 := Lib.hid hb0
      clear hs3 hb0 HS2
      go_wp2_with fail
      rw [← HB0.out]
      go_loopw [8] (fun s8 wr => ∃ (i : Nat) (L : List E), i ≤ l.length ∧ s8 = .int .i64 i ∧ L.length ≤ 4096 ∧ Sep w wr [refRes b0 L, treeRes t 5 L]) (fun s8 _ => l.length - (intOf s8).toNat)
      case atStart => exact ⟨0, [], Nat.zero_le _, rfl, by simp, HS3.out⟩
      case round =>
        obtain ⟨i, L, hi, rfl, hL, hs⟩ := hrel
        have HT := Lib.hid hs; clear hs HS3
        by_cases hlt : i < l.length
        · obtain ⟨x, hx⟩ : ∃ x, l[i]? = some x := ⟨_, List.getElem?_eq_getElem hlt⟩
          obtain ⟨b', o, rfl, hb', _, hn1, c0, c1, c2⟩ := (HST.out.only HT.out.old) i x hx
          have HX := Lib.hid hx; clear hx
          obtain ⟨kind, key, n⟩ := x
          simp only at hn1 c0 c1 c2
          have hL2 := putR_len (e := (key, n)) hL
          go_upto_region 8 with fail
          go_cut [] (fun wx => Sep w wx [treeRes t 5 (putR L (key, n)).1, refRes b0 L])
          case first =>
            go_region_held3 (fun w' => w'.cell? ⟨b', o + i * 3 + 1, none⟩ = some (.string key) ∧ w'.cell? ⟨b', o + i * 3 + 2, none⟩ = some (.int .i64 n)) (first | go_keep | (refine ⟨?_, ?_⟩ <;> assumption)) (first | (go_at_call 15; refine (tput_all (HT.out.up1.drew) key n hL).mono ?_; rintro r w4 ⟨rfl, hs4⟩; have HS4 := Lib.hid hs4; obtain ⟨kk0, kk1, kk2⟩ := (HST.out.only hs4.old).at HX.out; clear hs4))
            all_goals
              go_wp2_with fail
              go_meet
              exact HS4.out
          case rest =>
            have HS5 := Lib.hid hcut
            obtain ⟨kk0, kk1, kk2⟩ := (HST.out.only hcut.old).at HX.out
            clear hcut c0 c1 c2
            go_wp2_with fail
            go_region_held3 (fun w' => w'.cell? ⟨b', o + i * 3 + 1, none⟩ = some (.string key) ∧ w'.cell? ⟨b', o + i * 3 + 2, none⟩ = some (.int .i64 n)) (first | go_keep | (refine ⟨?_, ?_⟩ <;> assumption)) (first | (go_at_call 16; refine (rput_all (HS5.out.up1.drew) key n hL).mono ?_; rintro r w4 ⟨rfl, hs4⟩; have HS6 := Lib.hid hs4; obtain ⟨kk0, kk1, kk2⟩ := (HST.out.only hs4.old).at HX.out; clear hs4))
            all_goals
              go_wp2_with fail
              go_roundw
              case rel => exact ⟨i + 1, (putR L (key, n)).1, by omega, by go_num, hL2, HS6.out⟩
              case measure => simp [intOf]; omega
        · obtain ⟨W1, rfl⟩ : ∃ W1, W1 = wr := ⟨_, rfl⟩
          go_wp2_with fail
          refine (tcopy_any HT.out.up1.tree).mono ?_
          rintro r w4 ⟨c, rfl, hs4⟩
          have hs5 : Sep w w4 [treeRes t 5 L, treeRes c 5 L, refRes b0 L] := (HT.out.joinNew hs4).up2
          have HS5 := Lib.hid hs5; clear hs4 hs5 HT
          go_wp2_with fail
          go_loopw [10] (fun s10 wx => ∃ (i : Nat) (M : List E), i ≤ more.length ∧ s10 = .int .i64 i ∧ M.length ≤ 4096 ∧ Sep w wx [treeRes t 5 M, treeRes c 5 L, refRes b0 L]) (fun s10 _ => more.length - (intOf s10).toNat)
          case atStart => exact ⟨0, L, Nat.zero_le _, rfl, hL, HS5.out⟩
          case round =>
            obtain ⟨i, M, hi, rfl, hM, hs⟩ := hrel
            have HT := Lib.hid hs; clear hs HS5
            by_cases hlt : i < more.length
            · obtain ⟨x, hx⟩ : ∃ x, more[i]? = some x := ⟨_, List.getElem?_eq_getElem hlt⟩
              obtain ⟨b', o, rfl, hb', _, hn1, c0, c1, c2⟩ := (HST2.out.only HT.out.old) i x hx
              have HX := Lib.hid hx; clear hx
              obtain ⟨kind, key, n⟩ := x
              simp only at hn1 c0 c1 c2
              by_cases k1 : kind = 1
              · subst k1
                go_wp2_with fail
                refine (tdel_any HT.out key (by omega)).mono ?_
                rintro r w4 ⟨rfl, hs4⟩
                have HS4 := Lib.hid hs4; clear hs4
                go_wp2_with fail
                go_roundw
                case rel => exact ⟨i + 1, delL M key, by omega, by go_num, by rw [delL_length]; omega, HS4.out⟩
                case measure => simp [intOf]; omega
              · have k1' : (kind == 1) = false := by rw [beq_eq_false_iff_ne]; exact k1
                clear k1
                have hM2 := putR_len (e := (key, n)) hM
                go_wp2_with fail
                go_region_held3 (fun w' => w'.cell? ⟨b', o + i * 3 + 1, none⟩ = some (.string key) ∧ w'.cell? ⟨b', o + i * 3 + 2, none⟩ = some (.int .i64 n)) (first | go_keep | (refine ⟨?_, ?_⟩ <;> assumption)) (first | (go_at_call 15; refine (tput_all (HT.out.drew) key n hM).mono ?_; rintro r w4 ⟨rfl, hs4⟩; have HS4 := Lib.hid hs4; obtain ⟨kk0, kk1, kk2⟩ := (HST2.out.only hs4.old).at HX.out; clear hs4))
                all_goals
                  go_wp2_with fail
                  go_roundw
                  case rel => exact ⟨i + 1, (putR M (key, n)).1, by omega, by go_num, hM2, HS4.out⟩
                  case measure => simp [intOf]; omega
            · obtain ⟨W2, rfl⟩ : ∃ W2, W2 = wr := ⟨_, rfl⟩
              have hra := rangeL_all L hL
              have HR := Lib.hid (range_any HT.out.up1.tree (by omega) ⟨#[]⟩ ⟨#[]⟩ 4096)
              rw [hra] at HR
              clear hra
              go_wp2_with fail
              refine HR.out.mono ?_
              rintro r w4 ⟨pr, qr, rfl, hs4⟩
              have hs5 : Sep w w4 [rowRes 59 2 (.slice pr L.length qr) L.length (cellsE L), treeRes t 5 M, treeRes c 5 L, refRes b0 L] := HT.out.joinNew hs4
              have HS5 := Lib.hid hs5; clear hs4 hs5 HT HR
              go_wp2_with fail
              go_loopw [12] (fun s12 wx => ∃ (i : Nat) (xs : List Value), i ≤ L.length ∧ s12 = .int .i64 i ∧ xs.length = L.length * 2 ∧ Sep w wx [rowRes 59 2 (.slice pr L.length qr) L.length xs, treeRes t 5 M, treeRes c 5 L, refRes b0 L]) (fun s12 _ => L.length - (intOf s12).toNat)
              case atStart => exact ⟨0, cellsE L, Nat.zero_le _, rfl, cellsE_length L, HS5.out⟩
              case round =>
                obtain ⟨i, xs, hi, rfl, hxl, hs⟩ := hrel
                have HT := Lib.hid hs; clear hs HS5
                by_cases hlt : i < L.length
                · obtain ⟨g, rfl⟩ := HT.out.rowAt (by omega)
                  obtain ⟨u0, h0⟩ : ∃ u, xs[i * 2]? = some u := ⟨_, List.getElem?_eq_getElem (by omega)⟩
                  obtain ⟨u1, h1⟩ : ∃ u, xs[i * 2 + 1]? = some u := ⟨_, List.getElem?_eq_getElem (by omega)⟩
                  have f0 := HT.out.rowCell h0
                  have f1 := HT.out.rowCell h1
                  go_wp2_with fail
                  go_roundw
                  case rel => exact ⟨i + 1, _, by omega, by go_num, by rw [List.length_set, List.length_set]; exact hxl, (HT.out.rowStore (i * 2) _).rowStore (i * 2 + 1) _⟩
                  case measure => simp [intOf]; omega
                · have HT2 := Lib.hid HT.out.tail; clear HT
                  obtain ⟨rp, rq, hk0, hents⟩ := HT2.out.up2.ref.cell0
                  have HEN := Lib.hid hents; clear hents
                  have hra := rangeL_all L hL
                  have HR := Lib.hid (range_any (HT2.out.up1.drew.tree) (by omega) ⟨#[]⟩ ⟨#[]⟩ 4096)
                  rw [hra] at HR
                  clear hra hxl
                  go_wp2_with fail
                  go_region_held3 (fun w' => w'.cell? ⟨b0, 0, none⟩ = some (.slice rp L.length rq)) (first | go_keep | assumption) (first
                    | (go_at_call 18; refine HR.out.mono ?_; rintro r w4 ⟨pr2, qr2, rfl, hs4⟩; have HS4 := Lib.hid hs4; have o4 := (Only.drew [] wr).trans hs4.old (Within.nil _ _); have O4 := Lib.hid o4; have k4 := (o4.cell (block_lt_of_cell hk0) (by simp)).trans hk0; clear hs4 o4)
                    | (go_at_call 17; refine (same_any (entsAt_row HS4.out.row) (HEN.out.only O4.out) (by omega) (by omega)).mono ?_; rintro r w5 ⟨rfl, ho5⟩; rw [decide_eq_true rfl]; have k5 := (ho5.cell (block_lt_of_cell k4) (by simp)).trans k4; have O5 := Lib.hid (O4.out.trans ho5 (Within.nil _ _)); clear ho5)
                    | (go_at_call 23; refine (len_any (HT2.out.up1.tree.only O5.out)).mono ?_; rintro r w6 ⟨rfl, rfl⟩)
                    | (go_at_call 12; refine (wakes_any _).mono ?_; rintro r w7 ⟨rfl, ho7⟩; have O7 := Lib.hid (HT2.out.old.trans (O5.out.trans ho7 (Within.nil _ _)) (Within.nil _ _)); have k7 := (ho7.cell (block_lt_of_cell k5) (by simp)).trans k5; clear ho7))
                  all_goals
                    go_wp2_with fail
                    go_ret
                    exact ⟨rfl, O7.out⟩

theorem own : ownKnob Try.prog.godebug = none := by kernel_rfl
theorem laidOut : laidOutB Try.prog = true := by kernel_rfl

set_option maxRecDepth 100000 in
theorem lifted (os : Os) (started : os.Started) (H : Type) (enc : TypeId × Value → H) :
    ReturnsInHanded {} Try.checked os 6 .any (Rows.treeCopiesSpec.pre6 enc Try.prog Try.f6 Rows.treeCopiesRow.domain false) (Rows.treeCopiesSpec.post enc Try.prog Try.f6 false true false false) := by
  refine returnsInHanded_of_change (C := Try.checked) own started (by kernel_rfl) Try.func6
    (ChangeSpec.witness6 (enc := enc) (C := Try.checked) false ⟨#[], #[.slice none 0 0, .slice none 0 0], []⟩ 8 (by kernel_rfl) (by kernel_rfl) (by kernel_rfl) (by kernel_rfl)) ?_
  intro W base args ds gs before hval0 hW hcnd _
  have hval : ∀ (j : Nat) t v, Try.f6.params[j]? = some t → args[j]? = some v → Value.okWide Try.prog W .any base t v := hval0
  have hW' := hW
  obtain ⟨pp, pq, hA0, hV, rfl, hfz, hnd⟩ := hW
  have hA : DataW.TrodAll enc Try.prog W 0 (fun _ => true) true Try.f6.params.toList args.toList ds pp := hA0
  rw [Try.params6] at hA hval
  obtain ⟨v0, vs0, d0, ds0, p0, q0, hargs, rfl, rfl, h0, r0⟩ := trodAll_cons hA
  obtain ⟨v1, vs1, d1, ds1, p1, q1, rfl, rfl, rfl, h1, r1⟩ := trodAll_cons r0
  obtain ⟨rfl, rfl, rfl⟩ := trodAll_nil r1
  obtain rfl : args = #[v0, v1] := by cases args; simp_all
  obtain ⟨rfl, rfl⟩ := trodVars_none hV
  obtain ⟨sp0, sl0, sq0, rfl, hl0, hst0⟩ := open_steps (W := W) (v := v0) (by
    obtain ⟨a, len, cap, rfl⟩ := okWide_slice Try.underlying22 (hval 0 22 v0 rfl rfl)
    exact ⟨a, len, cap, rfl⟩) h0
  obtain ⟨sp1, sl1, sq1, rfl, hl1, hst1⟩ := open_steps (W := W) (v := v1) (by
    obtain ⟨a, len, cap, rfl⟩ := okWide_slice Try.underlying22 (hval 1 22 v1 rfl rfl)
    exact ⟨a, len, cap, rfl⟩) h1
  clear hA0 hval0
  simp only [List.append_nil] at hW'
  refine (walk sp0 sl0 sq0 sp1 sl1 sq1 W hl0 hst0 hl1 hst1).mono fun e W' ⟨he, hg⟩ => ?_
  subst he
  have hb : Below W.heap.size W W' := hg.below (Nat.le_refl _) (by simp)
  have hargs := (trodAll_cons_mk (Below.trod laidOut (by kernel_rfl) (of_decide_eq_true (by kernel_rfl)) h0 hb (fun x hx => hW'.lt x (by simp [hx]))) (trodAll_cons_mk (Below.trod laidOut (by kernel_rfl) (of_decide_eq_true (by kernel_rfl)) h1 hb (fun x hx => hW'.lt x (by simp [hx]))) trodAll_mk0))
  simp only [List.append_nil] at hargs
  exact ⟨_, rfl, _, _, _, [], _, [], hW', trodAll_cons_mk (shut_bool Try.underlying4 _) trodAll_mk0, hargs, rfl, hb.frame _, fun h => by cases h⟩

theorem over : Rows.treeCopiesRow.holds Try.pinned (OpenSpec.ofChange Rows.treeCopiesSpec) :=
  OpenClaim.holds_of_wide 6 Try.f6 rfl rfl rfl rfl rfl rfl rfl ⟨rfl, rfl, rfl, rfl, rfl⟩ rfl rfl rfl rfl rfl (by kernel_rfl) Try.func6 (by kernel_rfl)
    (of_decide_eq_true (by kernel_rfl)) (by unfold Func.isWrapper; first | (rw [if_pos (by decide +kernel)]; kernel_rfl) | (rw [if_neg (by decide +kernel)]; exact ⟨rfl, rfl⟩))
    (fun os started H enc _ => lifted os started H enc)

theorem proved : Rows.TreeCopiesSaid := over
#print axioms proved
end Go.Proofs.Ytmhbiakcadabmaa.treeCopies
