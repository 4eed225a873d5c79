/-
  What is proved here: the statement TreeOrder: whatever the order in which keys are put, and whatever comes and goes between, the tree has the same in the end; for every input.
  No condition.
-/
import Derived.Test.YtmhbiakcadabmaaPlay10
import Derived.Test.YtmhbiakcadabmaaOrderM
import Derived.Test.YtmhbiakcadabmaaArgs10
import Derived.ProofKit
import Derived.OpenShut
import Derived.HandedShaped
import Derived.Deep.DeepCutAuto
import Derived.Deep.CutBlock
namespace Go.Proofs.Ytmhbiakcadabmaa.treeOrder
open Go.ChangeShapes Go.WideShapes Go.ChangeAt Go.RowKit Go.Proofs.Ytmhbiakcadabmaa
set_option linter.unusedVariables false

theorem putR_len2 {L : List E} {e : E} {i : Nat} (h : L.length ≤ i) : (putR L e).1.length ≤ i + 1 := by have := putR_len1 L e; omega
theorem getD_at {O : List E} {x : Nat} {e : E} (h : O[x]? = some e) : O.getD x (⟨#[]⟩, 0) = e := by rw [List.getD_eq_getElem?_getD, h]; rfl

set_option maxRecDepth 100000 in
set_option maxHeartbeats 4000000 in
theorem walk (p : Option Addr) (l : List StepD) (q : Nat) (pt : Option Addr) (turn : List Int) (qt : Nat) (po : Option Addr) (other : List ByteArray) (qo : Nat) (w : World) (hl : ((l.length : Nat) : Int) ≤ 9223372036854775807) (hst : StepsAt w p l) (hlt : ((turn.length : Nat) : Int) ≤ 9223372036854775807) (hti : (∀ y ∈ turn, inI64 y) ∧ IntsAt w pt turn) (hlo : ((other.length : Nat) : Int) ≤ 9223372036854775807) (hso : StrsAt w po other) :
    Calls Try.prog 4 #[.slice p l.length q, .slice pt turn.length qt, .slice po other.length qo] w fun e w' => e = .returned (.bool true) ∧ Only [] w w' := by
  have HST := Lib.hid hst; clear hst
  have HTI := Lib.hid hti; clear hti
  have HSO := Lib.hid hso; clear hso
  have mixed : Try.prog.follows .mixedOrders = true := by kernel_rfl
  obtain ⟨ie, IE⟩ := info_of Try.infoREnt
  have hn := fun (V : World) (h : Sep w V []) => new_any h 3 (by omega) (by omega)
  rw [show ((3 : Nat) : Int) = 3 from rfl] at hn
  have HN := Lib.hid hn; clear hn
  have hm := fun (V : World) (r : Res) (h : Sep w V [r]) => new_any h 64 (by omega) (by omega)
  rw [show ((64 : Nat) : Int) = 64 from rfl] at hm
  have HM := Lib.hid hm; clear hm
  go_enter Try.func4, Try.ntmps4
  go_wp2_with fail
  refine (HN.out w (Sep.nil w)).mono ?_
  rintro e w1 ⟨a, rfl, hs1⟩
  have HS1 := Lib.hid hs1; clear hs1 HN
  go_wp2_with fail
  refine (HM.out _ _ HS1.out).mono ?_
  rintro e w2 ⟨b, rfl, hs2⟩
  have HS2 := Lib.hid hs2; clear hs2 HM HS1
  go_upto_region 3 with fail
  go_cut [44] (fun s44 wx => (∃ c : Bool, s44 = .bool c ∧ (c = false → fairB l = true ∧ other.length ≤ 100)) ∧ w2 = wx)
  case first =>
    cases hf : fairB l with
    | false =>
      go_wp2_with fail
      refine (fair_any p l q _ hl (HST.out.only HS2.out.old)).mono ?_
      rintro e w3 ⟨rfl, rfl⟩
      rw [hf]
      go_wp2_with fail
      go_meet
      exact ⟨⟨true, rfl, fun h => by cases h⟩, rfl⟩
    | true =>
      go_wp2_with fail
      refine (fair_any p l q _ hl (HST.out.only HS2.out.old)).mono ?_
      rintro e w3 ⟨rfl, rfl⟩
      rw [hf]
      go_wp2_with fail
      all_goals
        go_meet
        first
          | exact ⟨⟨true, rfl, fun h => by cases h⟩, rfl⟩
          | exact ⟨⟨false, rfl, fun _ => ⟨hf, by omega⟩⟩, rfl⟩
          | exact ⟨⟨_, rfl, fun h => by rw [decide_eq_false_iff_not] at h; exact ⟨hf, by omega⟩⟩, rfl⟩
  case rest =>
    obtain ⟨⟨c, rfl, hc⟩, rfl⟩ := hcut
    cases c with
    | true =>
      clear hc
      go_wp2_with fail
      refine (wakes_any _).mono ?_
      rintro e w4 ⟨rfl, ho⟩
      have HO := Lib.hid (HS2.out.old.trans ho (Within.nil _ _)); clear ho
      go_wp2_with fail
      go_ret
      exact ⟨rfl, HO.out⟩
    | false =>
      obtain ⟨hf, hoth⟩ := hc rfl
      obtain ⟨hlen, _⟩ := fair_true hf
      clear hc hf
      have hs3 := ref_new HS2.out
      obtain ⟨b0, hb0⟩ : ∃ b0, b0 = w2.heap.size := ⟨_, rfl⟩
      rw [← hb0] at hs3
      have HS3 := Lib.hid hs3
      have HB0 := Lib.hid hb0
      clear hs3 hb0 HS2
      go_wp2_with fail
      rw [← HB0.out]
      go_loopw [12] (fun s12 wr => ∃ (i : Nat) (L : List E), i ≤ l.length ∧ s12 = .int .i64 i ∧ L.length ≤ i ∧ Short L 4096 ∧ Sep w wr [refRes b0 L, treeRes a 3 L, treeRes b 64 []]) (fun s12 _ => l.length - (intOf s12).toNat)
      case atStart => exact ⟨0, [], Nat.zero_le _, rfl, by simp, fun x hx => by simp at hx, HS3.out.perm (.cons _ (.swap _ _ _))⟩
      case round =>
        obtain ⟨i, L, hi, rfl, hLi, hsh, hs⟩ := hrel
        have HT := Lib.hid hs; clear hs HS3
        have HSH := Lib.hid hsh; clear hsh
        by_cases hlt : i < l.length
        · obtain ⟨x, hx⟩ : ∃ x, l[i]? = some x := ⟨_, List.getElem?_eq_getElem hlt⟩
          obtain ⟨b', o, rfl, hb', _, hn1, c0, c1, c2⟩ := (HST.out.only HT.out.old) i x hx
          have HX := Lib.hid hx; clear hx
          obtain ⟨kind, key, n⟩ := x
          simp only at hn1 c0 c1 c2
          have hL : L.length ≤ 4096 := by omega
          have hL2 := putR_len2 (e := (key, n)) hLi
          have HSH2 := Lib.hid (HSH.out.put4 HT.out.up1.sortedL (key, n))
          go_upto_region 9 with fail
          go_cut [] (fun wx => Sep w wx [treeRes a 3 (putR L (key, n)).1, refRes b0 L, treeRes b 64 []])
          case first =>
            go_region_held3 (fun w' => w'.cell? ⟨b', o + i * 3 + 1, none⟩ = some (.string key) ∧ w'.cell? ⟨b', o + i * 3 + 2, none⟩ = some (.int .i64 n)) (first | go_keep | (refine ⟨?_, ?_⟩ <;> assumption)) (first | (go_at_call 15; refine (tput_all (HT.out.up1.drew) key n hL).mono ?_; rintro r w4 ⟨rfl, hs4⟩; have HS4 := Lib.hid hs4; obtain ⟨kk0, kk1, kk2⟩ := (HST.out.only hs4.old).at HX.out; clear hs4))
            all_goals
              go_wp2_with fail
              go_meet
              exact HS4.out
          case rest =>
            have HS5 := Lib.hid hcut
            obtain ⟨kk0, kk1, kk2⟩ := (HST.out.only hcut.old).at HX.out
            clear hcut c0 c1 c2
            go_wp2_with fail
            go_region_held3 (fun w' => w'.cell? ⟨b', o + i * 3 + 1, none⟩ = some (.string key) ∧ w'.cell? ⟨b', o + i * 3 + 2, none⟩ = some (.int .i64 n)) (first | go_keep | (refine ⟨?_, ?_⟩ <;> assumption)) (first | (go_at_call 16; refine (rput_all (HS5.out.up1.drew) key n hL).mono ?_; rintro r w4 ⟨rfl, hs4⟩; have HS6 := Lib.hid hs4; obtain ⟨kk0, kk1, kk2⟩ := (HST.out.only hs4.old).at HX.out; clear hs4))
            all_goals
              go_wp2_with fail
              go_roundw
              case rel => exact ⟨i + 1, (putR L (key, n)).1, by omega, by go_num, hL2, HSH2.out, HS6.out⟩
              case measure => simp [intOf]; omega
        · obtain ⟨W1, rfl⟩ : ∃ W1, W1 = wr := ⟨_, rfl⟩
          have hln : L.length ≤ 400 := by omega
          have hLS := HT.out.up1.sortedL
          have HLS := Lib.hid hLS
          clear hLS hLi HST
          obtain ⟨n, hn⟩ : ∃ n, n = L.length := ⟨_, rfl⟩
          rw [← hn] at hln
          have hs4 : Sep w (W1.alloc (.cells #[] 50)) [rowRes 50 2 (.slice (some ⟨W1.heap.size, 0, none⟩) 0 0) 0 [], refRes b0 L, treeRes a 3 L, treeRes b 64 []] := HT.out.row_made _ 2
          obtain ⟨rp, rq, hrb, hrow⟩ := hs4.up1.ref.open
          rw [← hn] at hrb hrow
          have k0 := cell_of_block hrb 0 (v := .slice rp n rq) rfl
          have HSRC := Lib.hid (row_src1 hrow)
          have HS4 := Lib.hid hs4
          have HNL := Lib.hid hn
          clear hs4 hrb hrow hn HT
          go_wp2_with (at_builtin; go_must (refine wpList_append_src (w := w) (e := 50) rfl (.tmp 86) (.tmp 90) 31 rfl ie _ 2 24 Try.underlying31 IE.out rfl (by decide) _ 0 [] rfl rp n rq (cellsE L) rfl (by rw [cellsE_length, ← HNL.out]) HSRC.out (cellsE_one L) HS4.out (by unfold maxLen; omega) (by omega) ?_))
          intro pr qr w5 hs5
          try rw [Nat.zero_add] at hs5
          try rw [List.nil_append] at hs5
          try rw [Nat.zero_add]
          have HS5 := Lib.hid hs5; clear hs5 k0
          go_wp2_with fail
          go_loopw [14] (fun s14 wx => ∃ (i : Nat) (O : List E), i ≤ turn.length ∧ i ≤ 401 ∧ s14 = .int .i64 i ∧ O.Perm L ∧ Sep w wx [rowRes 50 2 (.slice pr n qr) n (cellsE O), refRes b0 L, treeRes a 3 L, treeRes b 64 []]) (fun s14 _ => turn.length - (intOf s14).toNat)
          case atStart => exact ⟨0, L, Nat.zero_le _, Nat.zero_le _, rfl, List.Perm.refl _, HS5.out⟩
          case round =>
            obtain ⟨i, O, hi, hi4, rfl, hp, hs⟩ := hrel
            have HT := Lib.hid hs; clear hs HS5
            have HP := Lib.hid hp; clear hp
            have HOL := Lib.hid (HP.out.length_eq.trans HNL.out.symm)
            go_upto_region 13 with fail
            go_cut [105] (fun s105 wx => (∃ c : Bool, s105 = .bool c ∧ (c = true → i + 1 < turn.length ∧ 0 < n ∧ i < 400)) ∧ wr = wx)
            case first =>
              go_wp2_with fail
              all_goals
                go_meet
                first
                  | exact ⟨⟨false, rfl, fun h => (by cases h)⟩, rfl⟩
                  | exact ⟨⟨true, rfl, fun _ => ⟨by omega, by omega, by omega⟩⟩, rfl⟩
                  | exact ⟨⟨_, rfl, fun h => by simp only [Bool.and_eq_true, decide_eq_true_eq] at h; omega⟩, rfl⟩
            case rest =>
             obtain ⟨⟨c, rfl, hc⟩, rfl⟩ := hcut
             cases c with
             | true => as_aux_lemma =>
              obtain ⟨g1, g2, g3⟩ := hc rfl
              clear hc
              obtain ⟨ti, hti⟩ : ∃ x, turn[i]? = some x := ⟨_, List.getElem?_eq_getElem (by omega)⟩
              obtain ⟨tj, htj⟩ : ∃ x, turn[i + 1]? = some x := ⟨_, List.getElem?_eq_getElem g1⟩
              obtain ⟨bt, ot, rfl, _, t0⟩ := (HTI.out.2.only HT.out.old) i ti hti
              obtain ⟨bt', ot', et, _, t1⟩ := (HTI.out.2.only HT.out.old) (i + 1) tj htj
              simp only [Option.some.injEq, Addr.mk.injEq, and_true] at et
              obtain ⟨rfl, rfl⟩ := et
              have bi := HTI.out.1 ti (List.mem_of_getElem? hti)
              have bj := HTI.out.1 tj (List.mem_of_getElem? htj)
              clear hti htj
              obtain ⟨bi1, bi2⟩ := bi
              obtain ⟨bj1, bj2⟩ := bj
              have n1 : (1 : Int) ≤ (n : Int) := by omega
              have n2 : (n : Int) ≤ 1000000 := by omega
              have hw1 : ((i : Int) + 1).toNat = i + 1 := by omega
              go_wp2_with fail
              go_quiet ((go_at_call 20; refine Calls.quiet_of_same ((mod_any _ _ _ n1 n2 (by assumption) (by assumption)).mono fun e w' h => ⟨h.1, h.2.symm⟩)))
              have mx1 := Int.emod_nonneg ti (show (n : Int) ≠ 0 by omega)
              have mx2 := Int.emod_lt_of_pos ti (show (0 : Int) < n by omega)
              have my1 := Int.emod_nonneg tj (show (n : Int) ≠ 0 by omega)
              have my2 := Int.emod_lt_of_pos tj (show (0 : Int) < n by omega)
              clear t0 t1 bi1 bi2 bj1 bj2
              generalize ti % (n : Int) = X at mx1 mx2 ⊢
              generalize tj % (n : Int) = Y at my1 my2 ⊢
              obtain ⟨x, rfl⟩ : ∃ x : Nat, X = (x : Int) := ⟨X.toNat, by omega⟩
              obtain ⟨y, rfl⟩ : ∃ y : Nat, Y = (y : Int) := ⟨Y.toNat, by omega⟩
              have hxn : x < n := by omega
              have hyn : y < n := by omega
              clear mx1 mx2 my1 my2
              have HV := Lib.hid (HT.out.only (Only.drewN [] wr nq))
              clear HT
              generalize wr.drewN nq = V at HV ⊢
              obtain ⟨ex, hex⟩ : ∃ e, O[x]? = some e := ⟨_, List.getElem?_eq_getElem (by have := HOL.out; omega)⟩
              obtain ⟨ey, hey⟩ : ∃ e, O[y]? = some e := ⟨_, List.getElem?_eq_getElem (by have := HOL.out; omega)⟩
              obtain ⟨g, rfl⟩ := HV.out.rowAt (by rw [cellsE_length, HOL.out]; omega)
              obtain ⟨x0, zx0⟩ := HV.out.rowCell (cellsE_get hex).1
              obtain ⟨x1, zx1⟩ := HV.out.rowCell (cellsE_get hex).2
              obtain ⟨y0, zy0⟩ := HV.out.rowCell (cellsE_get hey).1
              obtain ⟨y1, zy1⟩ := HV.out.rowCell (cellsE_get hey).2
              have HSW : Hid (∀ V' : World, V' = V.drew → Sep w ((((V'.setCell ⟨g, x * 2, none⟩ (.string ey.1)).setCell ⟨g, x * 2 + 1, none⟩ (.int .i64 ey.2)).setCell ⟨g, y * 2, none⟩ (.string ex.1)).setCell ⟨g, y * 2 + 1, none⟩ (.int .i64 ex.2)) [rowRes 50 2 (.slice (some ⟨g, 0, none⟩) n qr) n (cellsE (swapL O x y)), refRes b0 L, treeRes a 3 L, treeRes b 64 []]) := by
                rintro V' rfl
                have h := (((HV.out.drew.rowStore (x * 2) (.string ey.1)).rowStore (x * 2 + 1) (.int .i64 ey.2)).rowStore (y * 2) (.string ex.1)).rowStore (y * 2 + 1) (.int .i64 ex.2)
                rw [cellsE_set, cellsE_set] at h
                have e : swapL O x y = (O.set x ey).set y ex := by unfold swapL; rw [getD_at hex, getD_at hey]
                rw [e]
                exact h
              have hcl : (cellsE O).length = n * 2 := by rw [cellsE_length, HOL.out]
              obtain ⟨q0, hq0⟩ : ∃ u, ((cellsE O).set (x * 2) (.string ey.1))[y * 2]? = some u := ⟨_, List.getElem?_eq_getElem (by rw [List.length_set]; omega)⟩
              obtain ⟨q1, hq1⟩ : ∃ u, ((cellsE O).set (x * 2 + 1) (.int .i64 ey.2))[y * 2 + 1]? = some u := ⟨_, List.getElem?_eq_getElem (by rw [List.length_set]; omega)⟩
              obtain ⟨q2, hq2⟩ : ∃ u, (((cellsE O).set (x * 2) (.string ey.1)).set (x * 2 + 1) (.int .i64 ey.2))[y * 2 + 1]? = some u := ⟨_, List.getElem?_eq_getElem (by rw [List.length_set, List.length_set]; omega)⟩
              obtain ⟨w2', zw2⟩ := ((HV.out.rowStore (x * 2) (.string ey.1)).rowStore (x * 2 + 1) (.int .i64 ey.2)).rowCell hq2
              obtain ⟨w0, zw0⟩ := (HV.out.rowStore (x * 2) (.string ey.1)).rowCell hq0
              obtain ⟨w1', zw1⟩ := (HV.out.rowStore (x * 2 + 1) (.int .i64 ey.2)).rowCell hq1
              have HPE := Lib.hid ((swap_perm (O := O) (x := x) (y := y) (by have := HOL.out; omega) (by have := HOL.out; omega)).trans HP.out)
              have hxi : (x : Int) < (n : Int) := by omega
              have hyi : (y : Int) < (n : Int) := by omega
              clear hex hey hq0 hq1 hq2 hcl
              go_wp2_with fail
              go_region
              all_goals
                go_wp2_with fail
                go_roundw
                case rel => exact ⟨i + 2, swapL O x y, by omega, by omega, by go_num, HPE.out, HSW.out _ rfl⟩
                case measure => simp [intOf]; omega
             | false =>
              clear hc
              obtain ⟨W2, rfl⟩ : ∃ W2, W2 = wr := ⟨_, rfl⟩
              have HKN : Hid ((O.map Prod.fst).Nodup) := (HP.out.map Prod.fst).nodup_iff.2 (sorted_nodup HLS.out)
              have HSE : Hid (∀ x ∈ O, x.1.size ≤ 4096) := fun x hx => HSH.out x (HP.out.mem_iff.1 hx)
              have HS3 := Lib.hid HT.out.up3
              clear HT HTI HNL HSRC HS4
              go_wp2_with fail
              go_loopw [17] (fun s17 wx => ∃ (i : Nat) (B : List E), i ≤ n ∧ s17 = .int .i64 i ∧ Inv2 O other n i B ∧ Sep w wx [treeRes b 64 B, rowRes 50 2 (.slice pr n qr) n (cellsE O), refRes b0 L, treeRes a 3 L]) (fun s17 _ => n - (intOf s17).toNat)
              case atStart => exact ⟨0, [], Nat.zero_le _, rfl, Inv2.nil _ _ _, HS3.out⟩
              case round =>
                obtain ⟨i, B, hi, rfl, hinv, hs⟩ := hrel
                have HT := Lib.hid hs; clear hs HS3
                have hBl := hinv.len
                have HI := Lib.hid hinv; clear hinv
                by_cases hlt3 : i < n
                · obtain ⟨g, rfl⟩ := HT.out.up1.rowAt (by rw [cellsE_length, HOL.out]; omega)
                  obtain ⟨e, he⟩ : ∃ e, O[i]? = some e := ⟨_, List.getElem?_eq_getElem (by rw [HOL.out]; exact hlt3)⟩
                  have HE := Lib.hid he
                  have HEK := Lib.hid (HSE.out e (List.mem_of_getElem? he))
                  clear he
                  go_upto_region 20 with fail
                  go_cut [154] (fun s154 wx => (∃ c : Bool, s154 = .bool c ∧ (c = true → ∃ k, other[i]? = some k ∧ k.size < 1000)) ∧ wr = wx)
                  case first =>
                    by_cases hio : i < other.length
                    · obtain ⟨k, hk⟩ : ∃ k, other[i]? = some k := ⟨_, List.getElem?_eq_getElem hio⟩
                      obtain ⟨bo, oo, rfl, _, ok0⟩ := (HSO.out.only HT.out.old) i k hk
                      have HK := Lib.hid hk; clear hk
                      go_wp2_with fail
                      all_goals
                        go_meet
                        first
                          | exact ⟨⟨false, rfl, fun h => by cases h⟩, rfl⟩
                          | exact ⟨⟨true, rfl, fun _ => ⟨k, HK.out, by omega⟩⟩, rfl⟩
                          | exact ⟨⟨_, rfl, fun h => ⟨k, HK.out, by simp only [decide_eq_true_eq] at h; omega⟩⟩, rfl⟩
                    · go_wp2_with fail
                      go_meet
                      exact ⟨⟨false, rfl, fun h => by cases h⟩, rfl⟩
                  case rest =>
                    obtain ⟨⟨c, rfl, hc⟩, rfl⟩ := hcut
                    cases c with
                    | true => as_aux_lemma =>
                      obtain ⟨k, hk, hks⟩ := hc rfl
                      have hio : i < other.length := (List.getElem?_eq_some_iff.1 hk).1
                      obtain ⟨bo, oo, rfl, _, ok0⟩ := (HSO.out.only HT.out.old) i k hk
                      have HMI := HI.out.odd hlt3 hk hks (-1)
                      have hBl2 := HMI.len
                      clear hc hk
                      go_wp2_with fail
                      refine (tput_all HT.out k (-1) (by omega)).mono ?_
                      rintro r w4 ⟨rfl, hs4⟩
                      rw [putR_eq (show (k, (-1 : Int)).1.size ≤ 4096 from by show k.size ≤ 4096; omega) (by omega)] at hs4
                      have HS4 := Lib.hid hs4
                      obtain ⟨z0, _⟩ := hs4.up1.rowCell (cellsE_get HE.out).1
                      obtain ⟨z1, _⟩ := hs4.up1.rowCell (cellsE_get HE.out).2
                      have HMID := Lib.hid HMI
                      clear hs4 ok0 HMI
                      go_wp2_with fail
                      go_region_held3 (fun w' => w'.cell? ⟨g, i * 2, none⟩ = some (.string e.1) ∧ w'.cell? ⟨g, i * 2 + 1, none⟩ = some (.int .i64 e.2)) (first | go_keep | (refine ⟨?_, ?_⟩ <;> assumption)) (first | (go_at_call 15; refine (tput_all (HS4.out.drew) e.1 e.2 (by omega)).mono ?_; rintro r w5 ⟨rfl, hs5⟩; have HS5 := Lib.hid hs5; obtain ⟨zz0, _⟩ := hs5.up1.rowCell (cellsE_get HE.out).1; obtain ⟨zz1, _⟩ := hs5.up1.rowCell (cellsE_get HE.out).2; clear hs5))
                      all_goals
                        have HS6 := HS5.out
                        rw [putR_eq HEK.out (by omega)] at HS6
                        have HS7 := Lib.hid HS6
                        clear HS6
                        go_wp2_with fail
                        go_roundw
                        case rel => exact ⟨i + 1, _, by omega, by go_num, HMID.out.put HE.out HKN.out, HS7.out⟩
                        case measure => simp [intOf]; omega
                    | false => as_aux_lemma =>
                      have HMI := HI.out.skip
                      have HMID := Lib.hid HMI
                      obtain ⟨z0, _⟩ := HT.out.up1.rowCell (cellsE_get HE.out).1
                      obtain ⟨z1, _⟩ := HT.out.up1.rowCell (cellsE_get HE.out).2
                      clear hc HMI
                      go_wp2_with fail
                      go_region_held3 (fun w' => w'.cell? ⟨g, i * 2, none⟩ = some (.string e.1) ∧ w'.cell? ⟨g, i * 2 + 1, none⟩ = some (.int .i64 e.2)) (first | go_keep | (refine ⟨?_, ?_⟩ <;> assumption)) (first | (go_at_call 15; refine (tput_all (HT.out.drew) e.1 e.2 (by omega)).mono ?_; rintro r w5 ⟨rfl, hs5⟩; have HS5 := Lib.hid hs5; obtain ⟨zz0, _⟩ := hs5.up1.rowCell (cellsE_get HE.out).1; obtain ⟨zz1, _⟩ := hs5.up1.rowCell (cellsE_get HE.out).2; clear hs5))
                      all_goals
                        have HS6 := HS5.out
                        rw [putR_eq HEK.out (by omega)] at HS6
                        have HS7 := Lib.hid HS6
                        clear HS6
                        go_wp2_with fail
                        go_roundw
                        case rel => exact ⟨i + 1, _, by omega, by go_num, HMID.out.put HE.out HKN.out, HS7.out⟩
                        case measure => simp [intOf]; omega
                · obtain ⟨W3, rfl⟩ : ∃ W3, W3 = wr := ⟨_, rfl⟩
                  have hin : i = n := by omega
                  subst hin
                  have HI3 := Lib.hid (HI.out.turn HOL.out HP.out)
                  clear HI hBl
                  go_wp2_with fail
                  go_loopw [18] (fun s18 wx => ∃ (j : Nat) (B : List E), j ≤ i ∧ s18 = .int .i64 j ∧ Inv3 L other i j B ∧ Sep w wx [treeRes b 64 B, rowRes 50 2 (.slice pr i qr) i (cellsE O), refRes b0 L, treeRes a 3 L]) (fun s18 _ => i - (intOf s18).toNat)
                  case atStart => exact ⟨0, B, Nat.zero_le _, rfl, HI3.out, HT.out⟩
                  case round =>
                    obtain ⟨j, B, hj, rfl, hinv, hs⟩ := hrel
                    have HT := Lib.hid hs; clear hs HI3
                    have hBl := hinv.len
                    have HI := Lib.hid hinv; clear hinv
                    have hLl : L.length ≤ 4096 := by have := HP.out.length_eq; have := HOL.out; omega
                    go_upto_region 24 with fail
                    go_cut [182] (fun s182 wx => (∃ c : Bool, s182 = .bool c ∧ (c = true → j < other.length ∧ j < i) ∧ (c = false → i ≤ j ∨ other.length ≤ j)) ∧ wr = wx)
                    case first =>
                      by_cases hjo : j < other.length
                      · by_cases hji : j < i
                        · go_wp2_with fail
                          go_meet
                          exact ⟨⟨true, rfl, fun _ => ⟨hjo, hji⟩, fun h => (by cases h)⟩, rfl⟩
                        · go_wp2_with fail
                          go_meet
                          exact ⟨⟨false, rfl, fun h => (by cases h), fun _ => (by omega)⟩, rfl⟩
                      · go_wp2_with fail
                        go_meet
                        exact ⟨⟨false, rfl, fun h => (by cases h), fun _ => (by omega)⟩, rfl⟩
                    case rest =>
                      obtain ⟨⟨c, rfl, hc1, hc2⟩, rfl⟩ := hcut
                      cases c with
                      | true => as_aux_lemma =>
                        obtain ⟨hjo, hji⟩ := hc1 rfl
                        clear hc1 hc2
                        obtain ⟨k, hk⟩ : ∃ k, other[j]? = some k := ⟨_, List.getElem?_eq_getElem hjo⟩
                        obtain ⟨bo, oo, rfl, _, ok0⟩ := (HSO.out.only HT.out.old) j k hk
                        have HK := Lib.hid hk; clear hk
                        by_cases hbig : 1000 ≤ k.size
                        · have HI2 := Lib.hid (HI.out.skip HK.out (by omega))
                          go_wp2_with fail
                          go_roundw
                          case rel => exact ⟨j + 1, B, by omega, by go_num, HI2.out, HT.out⟩
                          case measure => simp [intOf]; omega
                        · have HRG := Lib.hid (rget_any HT.out.up2.ref (by omega) k)
                          cases hg : getL L k with
                          | some v =>
                            have HI2 := Lib.hid (HI.out.put HLS.out HK.out hg)
                            rw [hg] at HRG
                            simp only [Option.getD, Option.isSome] at HRG
                            clear hg
                            go_wp2_with fail
                            refine HRG.out.mono ?_
                            rintro r w4 ⟨rfl, rfl⟩
                            go_wp2_with fail
                            refine (tput_all HT.out k v (by omega)).mono ?_
                            rintro r w4 ⟨rfl, hs4⟩
                            rw [putR_eq (show (k, v).1.size ≤ 4096 from by show k.size ≤ 4096; omega) (by omega)] at hs4
                            have HS4 := Lib.hid hs4; clear hs4
                            go_wp2_with fail
                            go_roundw
                            case rel => exact ⟨j + 1, _, by omega, by go_num, HI2.out, HS4.out⟩
                            case measure => simp [intOf]; omega
                          | none =>
                            have HI2 := Lib.hid (HI.out.del HLS.out HK.out hg)
                            rw [hg] at HRG
                            simp only [Option.getD, Option.isSome] at HRG
                            clear hg
                            go_wp2_with fail
                            refine HRG.out.mono ?_
                            rintro r w4 ⟨rfl, rfl⟩
                            go_wp2_with fail
                            refine (tdel_any HT.out k (by omega)).mono ?_
                            rintro r w4 ⟨rfl, hs4⟩
                            have HS4 := Lib.hid hs4; clear hs4
                            go_wp2_with fail
                            go_roundw
                            case rel => exact ⟨j + 1, _, by omega, by go_num, HI2.out, HS4.out⟩
                            case measure => simp [intOf]; omega
                      | false => as_aux_lemma =>
                        obtain ⟨W4, rfl⟩ : ∃ W4, W4 = wr := ⟨_, rfl⟩
                        have hBL := HI.out.done HLS.out (hc2 rfl)
                        subst hBL
                        clear hc1 hc2 HI
                        obtain ⟨rp2, rq2, hk0, hents⟩ := HT.out.up2.ref.cell0
                        have HEN := Lib.hid hents; clear hents
                        have hra := rangeL_all B hLl
                        have HRA := Lib.hid (range_any (HT.out.up3.drew.tree) (by omega) ⟨#[]⟩ ⟨#[]⟩ 4096)
                        have HRB := Lib.hid (fun V h => range_any (W := V) (L := B) (q := b) (fan := 64) h (by omega) ⟨#[]⟩ ⟨#[]⟩ 4096)
                        rw [hra] at HRA HRB
                        clear hra
                        have HTB := Lib.hid HT.out.tree
                        have OLD := Lib.hid HT.out.old
                        clear HT
                        go_wp2_with fail
                        go_region_held3 (fun w' => w'.cell? ⟨b0, 0, none⟩ = some (.slice rp2 B.length rq2)) (first | go_keep | assumption) (first
                          | (go_at_call 18; first
                            | (refine (HRB.out _ (HTB.out.only O5.out)).mono ?_; rintro r w6 ⟨pr4, qr4, rfl, hs6⟩; have HS6 := Lib.hid hs6; have o6 := O5.out.trans hs6.old (Within.nil _ _); have O6 := Lib.hid o6; have k6 := (o6.cell (block_lt_of_cell hk0) (by simp)).trans hk0; clear hs6 o6)
                            | (refine HRA.out.mono ?_; rintro r w4 ⟨pr3, qr3, rfl, hs4⟩; have HS4 := Lib.hid hs4; have o4 := (Only.drew [] W4).trans hs4.old (Within.nil _ _); have O4 := Lib.hid o4; have k4 := (o4.cell (block_lt_of_cell hk0) (by simp)).trans hk0; clear hs4 o4))
                          | (go_at_call 17; first
                            | (refine (same_any (entsAt_row HS6.out.row) (HEN.out.only O6.out) (by omega) (by omega)).mono ?_; rintro r w7 ⟨rfl, ho7⟩; rw [decide_eq_true rfl]; have O7 := Lib.hid (O6.out.trans ho7 (Within.nil _ _)); have k7 := (O7.out.cell (block_lt_of_cell hk0) (by simp)).trans hk0; clear ho7)
                            | (refine (same_any (entsAt_row HS4.out.row) (HEN.out.only O4.out) (by omega) (by omega)).mono ?_; rintro r w5 ⟨rfl, ho5⟩; rw [decide_eq_true rfl]; have O5 := Lib.hid (O4.out.trans ho5 (Within.nil _ _)); have k5 := (O5.out.cell (block_lt_of_cell hk0) (by simp)).trans hk0; clear ho5))
                          | (go_at_call 12; refine (wakes_any _).mono ?_; rintro r w8 ⟨rfl, ho8⟩; have O8 := Lib.hid (O7.out.trans ho8 (Within.nil _ _)); have k8 := (O8.out.cell (block_lt_of_cell hk0) (by simp)).trans hk0; clear ho8))
                        all_goals
                          go_wp2_with fail
                          go_ret
                          exact ⟨rfl, OLD.out.trans O8.out (Within.nil _ _)⟩

theorem own : ownKnob Try.prog.godebug = none := by kernel_rfl
theorem laidOut : laidOutB Try.prog = true := by kernel_rfl

set_option maxRecDepth 100000 in
theorem lifted (os : Os) (started : os.Started) (H : Type) (enc : TypeId × Value → H) :
    ReturnsInHanded {} Try.checked os 4 .any (Rows.treeOrderSpec.pre6 enc Try.prog Try.f4 Rows.treeOrderRow.domain false) (Rows.treeOrderSpec.post enc Try.prog Try.f4 false true false false) := by
  refine returnsInHanded_of_change (C := Try.checked) own started (by kernel_rfl) Try.func4
    (ChangeSpec.witness6 (enc := enc) (C := Try.checked) false ⟨#[], #[.slice none 0 0, .slice none 0 0, .slice none 0 0], []⟩ 8 (by kernel_rfl) (by kernel_rfl) (by kernel_rfl) (by kernel_rfl)) ?_
  intro W base args ds gs before hval0 hW hcnd _
  have hval : ∀ (j : Nat) t v, Try.f4.params[j]? = some t → args[j]? = some v → Value.okWide Try.prog W .any base t v := hval0
  have hW' := hW
  obtain ⟨pp, pq, hA0, hV, rfl, hfz, hnd⟩ := hW
  have hA : DataW.TrodAll enc Try.prog W 0 (fun _ => true) true Try.f4.params.toList args.toList ds pp := hA0
  rw [Try.params4] at hA hval
  obtain ⟨v0, vs0, d0, ds0, p0, q0, hargs, rfl, rfl, h0, r0⟩ := trodAll_cons hA
  obtain ⟨v1, vs1, d1, ds1, p1, q1, rfl, rfl, rfl, h1, r1⟩ := trodAll_cons r0
  obtain ⟨v2, vs2, d2, ds2, p2, q2, rfl, rfl, rfl, h2, r2⟩ := trodAll_cons r1
  obtain ⟨rfl, rfl, rfl⟩ := trodAll_nil r2
  obtain rfl : args = #[v0, v1, v2] := by cases args; simp_all
  obtain ⟨rfl, rfl⟩ := trodVars_none hV
  obtain ⟨sp0, sl0, sq0, rfl, hl0, hst0⟩ := open_steps (W := W) (v := v0) (by
    obtain ⟨a, len, cap, rfl⟩ := okWide_slice Try.underlying22 (hval 0 22 v0 rfl rfl)
    exact ⟨a, len, cap, rfl⟩) h0
  obtain ⟨sp1, sl1, sq1, rfl, hl1, hst1⟩ := open_ints (W := W) (v := v1) (by
    obtain ⟨a, len, cap, rfl⟩ := okWide_slice Try.underlying46 (hval 1 46 v1 rfl rfl)
    exact ⟨a, len, cap, rfl⟩) h1
  obtain ⟨sp2, sl2, sq2, rfl, hl2, hst2⟩ := open_strs (W := W) (v := v2) (by
    obtain ⟨a, len, cap, rfl⟩ := okWide_slice Try.underlying47 (hval 2 47 v2 rfl rfl)
    exact ⟨a, len, cap, rfl⟩) h2
  clear hA0 hval0
  simp only [List.append_nil] at hW'
  refine (walk sp0 sl0 sq0 sp1 sl1 sq1 sp2 sl2 sq2 W hl0 hst0 hl1 hst1 hl2 hst2).mono fun e W' ⟨he, hg⟩ => ?_
  subst he
  have hb : Below W.heap.size W W' := hg.below (Nat.le_refl _) (by simp)
  have hargs := (trodAll_cons_mk (Below.trod laidOut (by kernel_rfl) (of_decide_eq_true (by kernel_rfl)) h0 hb (fun x hx => hW'.lt x (by simp [hx]))) (trodAll_cons_mk (Below.trod laidOut (by kernel_rfl) (of_decide_eq_true (by kernel_rfl)) h1 hb (fun x hx => hW'.lt x (by simp [hx]))) (trodAll_cons_mk (Below.trod laidOut (by kernel_rfl) (of_decide_eq_true (by kernel_rfl)) h2 hb (fun x hx => hW'.lt x (by simp [hx]))) trodAll_mk0)))
  simp only [List.append_nil] at hargs
  exact ⟨_, rfl, _, _, _, [], _, [], hW', trodAll_cons_mk (shut_bool Try.underlying4 _) trodAll_mk0, hargs, rfl, hb.frame _, fun h => by cases h⟩

theorem over : Rows.treeOrderRow.holds Try.pinned (OpenSpec.ofChange Rows.treeOrderSpec) :=
  OpenClaim.holds_of_wide 4 Try.f4 rfl rfl rfl rfl rfl rfl rfl ⟨rfl, rfl, rfl, rfl, rfl⟩ rfl rfl rfl rfl rfl (by kernel_rfl) Try.func4 (by kernel_rfl)
    (of_decide_eq_true (by kernel_rfl)) (by unfold Func.isWrapper; first | (rw [if_pos (by decide +kernel)]; kernel_rfl) | (rw [if_neg (by decide +kernel)]; exact ⟨rfl, rfl⟩))
    (fun os started H enc _ => lifted os started H enc)

theorem proved : Rows.TreeOrderSaid := over
#print axioms proved
end Go.Proofs.Ytmhbiakcadabmaa.treeOrder
