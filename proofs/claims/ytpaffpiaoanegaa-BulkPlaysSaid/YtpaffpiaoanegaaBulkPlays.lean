/-
  What is proved here: the statement BulkPlays: keys that come some at a time: each error, how many there are, which was the last; the tree in the end, and what it is behind that; for every input.
  No condition.
-/
import Derived.Test.YtpaffpiaoanegaaBulkN
import Derived.Test.YtpaffpiaoanegaaBulkW
import Derived.Test.YtpaffpiaoanegaaArgs11
import Derived.Test.YtpaffpiaoanegaaPlay11
import Derived.ProofKit
import Derived.OpenShut
import Derived.HandedShaped
import Derived.Deep.DeepCutAuto
import Derived.Deep.CutBlock
namespace Go.Proofs.Ytpaffpiaoanegaa.bulkPlays
open Go.ChangeShapes Go.WideShapes Go.ChangeAt Go.RowKit Go.Proofs.Ytpaffpiaoanegaa
set_option linter.unusedVariables false
set_option linter.unusedSimpArgs false

set_option maxRecDepth 100000 in
set_option maxHeartbeats 1000000 in
theorem bad (fan : Int) (p : Option Addr) (l : List (List E)) (q : Nat) (pm : Option Addr) (more : List StepD) (qm : Nat) (w : World) (h : fan < 3 ∨ 64 < fan) :
    Calls Try.prog 6 #[.int .i64 fan, .slice p l.length q, .slice pm more.length qm] w fun e w' => e = .returned (.bool true) ∧ Only [] w w' := by
  have HN := Lib.hid (bnew_bad (W := w) fan h)
  rcases h with h | h
  · go_enter Try.func6, Try.ntmps6
    go_wp2_with fail
    refine HN.out.mono ?_
    rintro e w2 ⟨rfl, rfl⟩
    go_wp2_with fail
    refine (wakes_any _).mono ?_
    rintro e w4 ⟨rfl, ho⟩
    have HO := Lib.hid ho; clear ho
    go_wp2_with fail
    go_ret
    exact ⟨rfl, HO.out⟩
  · have h3 : ¬ fan < 3 := by omega
    go_enter Try.func6, Try.ntmps6
    go_wp2_with fail
    refine HN.out.mono ?_
    rintro e w2 ⟨rfl, rfl⟩
    go_wp2_with fail
    refine (wakes_any _).mono ?_
    rintro e w4 ⟨rfl, ho⟩
    have HO := Lib.hid ho; clear ho
    go_wp2_with fail
    go_ret
    exact ⟨rfl, HO.out⟩

theorem bne_b (b : Bool) : (b != b) = false := by cases b <;> rfl

set_option maxRecDepth 100000 in
set_option maxHeartbeats 4000000 in
theorem good (f : Nat) (p : Option Addr) (l : List (List E)) (q : Nat) (pm : Option Addr) (more : List StepD) (qm : Nat) (w : World) (hf3 : 3 ≤ f) (hf64 : f ≤ 64) (hl : ((l.length : Nat) : Int) ≤ 9223372036854775807) (hst : EntssAt w p l) (hlm : ((more.length : Nat) : Int) ≤ 9223372036854775807) (hsm : StepsAt w pm more) :
    Calls Try.prog 6 #[.int .i64 f, .slice p l.length q, .slice pm more.length qm] w fun e w' => e = .returned (.bool true) ∧ Only [] w w' := by
  have HST := Lib.hid hst; clear hst
  have HSM := Lib.hid hsm; clear hsm
  have mixed : Try.prog.follows .mixedOrders = true := by kernel_rfl
  obtain ⟨it, IT⟩ := info_of Try.infoEnt
  obtain ⟨ie, IE⟩ := info_of Try.infoREnt
  have HN := Lib.hid (bnew_any (Sep.nil w) f hf3 hf64)
  have h3 : ¬ ((f : Int) < 3) := by omega
  have h64 : ¬ ((64 : Int) < f) := by omega
  go_enter Try.func6, Try.ntmps6
  go_wp2_with fail
  refine HN.out.mono ?_
  rintro e w2 ⟨b, rfl, hs2⟩
  have HS2 := Lib.hid hs2; clear hs2 HN
  go_upto_region 4 with fail
  go_cut [56] (fun s56 wx => (∃ c : Bool, s56 = .bool c ∧ (c = false → fairE l = true ∧ more.length ≤ 200)) ∧ w2 = wx)
  case first =>
    cases hf : fairE l with
    | false =>
      go_wp2_with fail
      refine (fair_any p l q _ hl (HST.out.only HS2.out.old)).mono ?_
      rintro e w3 ⟨rfl, rfl⟩
      rw [hf]
      go_wp2_with fail
      go_meet
      exact ⟨⟨true, rfl, fun h => by cases h⟩, rfl⟩
    | true =>
      go_wp2_with fail
      refine (fair_any p l q _ hl (HST.out.only HS2.out.old)).mono ?_
      rintro e w3 ⟨rfl, rfl⟩
      rw [hf]
      go_wp2_with fail
      all_goals
        go_meet
        first
          | exact ⟨⟨true, rfl, fun h => by cases h⟩, rfl⟩
          | exact ⟨⟨false, rfl, fun _ => ⟨hf, by omega⟩⟩, rfl⟩
          | exact ⟨⟨_, rfl, fun h => by rw [decide_eq_false_iff_not] at h; exact ⟨hf, by omega⟩⟩, rfl⟩
  case rest =>
    obtain ⟨⟨c, rfl, hc⟩, rfl⟩ := hcut
    cases c with
    | true =>
      clear hc
      go_wp2_with fail
      refine (wakes_any _).mono ?_
      rintro e w4 ⟨rfl, ho⟩
      have HO := Lib.hid (HS2.out.old.trans ho (Within.nil _ _)); clear ho
      go_wp2_with fail
      go_ret
      exact ⟨rfl, HO.out⟩
    | false =>
      obtain ⟨hf, hm200⟩ := hc rfl
      obtain ⟨hl30, hlens⟩ := fairE_true hf
      have HLN := Lib.hid hlens
      clear hc hf hlens
      have hs3 := (rb_new HS2.out).up1
      obtain ⟨b0, hb0⟩ : ∃ b0, b0 = w2.heap.size := ⟨_, rfl⟩
      rw [← hb0] at hs3
      have HS3 := Lib.hid hs3
      have HB0 := Lib.hid hb0
      clear hs3 hb0 HS2
      go_wp2_with fail
      rw [← HB0.out]
      go_loopw [10] (fun s10 wr => ∃ (i : Nat) (L : List E), i ≤ l.length ∧ s10 = .int .i64 i ∧ L.length ≤ 4096 ∧ Sep w wr [bulkRes b f L 0 false, rbRes b0 L]) (fun s10 _ => l.length - (intOf s10).toNat)
      case atStart => exact ⟨0, [], Nat.zero_le _, rfl, by simp, HS3.out⟩
      case round =>
        obtain ⟨i, L, hi, rfl, hL, hs⟩ := hrel
        have HT := Lib.hid hs; clear hs HS3
        by_cases hlt : i < l.length
        · obtain ⟨x, hx⟩ : ∃ x, l[i]? = some x := ⟨_, List.getElem?_eq_getElem hlt⟩
          have hxl := HLN.out x (List.mem_of_getElem? hx)
          obtain ⟨bb, oo, px, qx, rfl, _, c0, _, hex⟩ := (HST.out) i x hx
          have HC0 := Lib.hid c0
          have HEX := Lib.hid hex
          clear hx c0 hex
          have hs4 : Sep wr (wr.alloc (.cells #[] 31)) [rowRes 31 2 (.slice (some ⟨wr.heap.size, 0, none⟩) 0 0) 0 []] := (Sep.nil wr).row_made _ 2
          have HSRC := Lib.hid (ents_src ((HEX.out.only HT.out.old).only hs4.old))
          have c0 := ((HT.out.old.trans hs4.old (Within.nil _ _)).cell (block_lt_of_cell HC0.out) (by simp)).trans HC0.out
          have HS4 := Lib.hid hs4; clear hs4
          go_wp2_with (at_builtin; go_must (refine wpList_append_src (w := wr) (e := 31) rfl (.tmp 70) (.tmp 74) 32 rfl it _ 2 24 Try.underlying32 IT.out rfl (by decide) _ 0 [] rfl px x.length qx (cellsE x) rfl (by rw [cellsE_length]) HSRC.out (cellsE_one x) HS4.out (by unfold maxLen; omega) (by omega) ?_))
          intro pr qr w5 hs5
          try rw [Nat.zero_add] at hs5
          try rw [List.nil_append] at hs5
          try rw [Nat.zero_add]
          have HS5 := Lib.hid (HT.out.joinNew2 hs5)
          clear hs5 HS4 HSRC HT c0
          have hL1 := addR_len (l := x) hL
          have HA := Lib.hid (badd_any HS5.out.up1.drew qr (fun W' L' h => entsAt_row h.up1.row) hL (by omega))
          have HQ : Hid (∀ {W : World} {rest : List Res} {p' : Option Addr} (q' : Nat), Sep w W (rbRes b0 L :: rest) → EntsAt W p' x → _) := fun {W} {rest} {p'} q' h1 h2 => rbadd_any (w := w) (W := W) (rest := rest) (p := p') h1 q' h2 (by omega) (by omega)
          generalize (addR L x).1 = L1 at HA HQ hL1
          generalize (addR L x).2 = cc at HA HQ
          have hcc : (cc != cc) = false := by simp
          have c5 := (HS5.out.old.cell (block_lt_of_cell HC0.out) (by simp)).trans HC0.out
          go_upto_region 11 with fail
          go_cut [96] (fun s96 wx => s96 = .bool false ∧ Sep w wx [bulkRes b f L1 0 false, rbRes b0 L1])
          case first => as_aux_lemma =>
            go_region_held3 (fun w' => w'.cell? ⟨bb, oo + i, none⟩ = some (.slice px x.length qx)) (first | go_keep | assumption) (first
              | (go_at_call 9; refine HA.out.mono ?_; rintro r w6 ⟨rfl, hs6⟩; have HS6 := Lib.hid hs6; have c6 := (hs6.old.cell (block_lt_of_cell HC0.out) (by simp)).trans HC0.out; clear hs6)
              | (go_at_call 19; first
                | (refine (own_any HS8.out qx (HEX.out.only HS8.out.old) (by omega)).mono ?_; rintro r w9 ⟨p9, q9, rfl, hs9, _⟩; have HS9 := Lib.hid hs9; have c9 := (hs9.old.cell (block_lt_of_cell HC0.out) (by simp)).trans HC0.out; clear hs9)
                | (refine (own_any HS6.out qx (HEX.out.only HS6.out.old) (by omega)).mono ?_; rintro r w7 ⟨p7, q7, rfl, hs7, _⟩; have HS7 := Lib.hid hs7; have c7 := (hs7.old.cell (block_lt_of_cell HC0.out) (by simp)).trans HC0.out; clear hs7))
              | (go_at_call 18; refine (HQ.out q7 HS7.out.up3 (entsAt_row HS7.out.row)).mono ?_; rintro r w8 ⟨rfl, hs8⟩; have HS8 := Lib.hid hs8; have c8 := (hs8.old.cell (block_lt_of_cell HC0.out) (by simp)).trans HC0.out; clear hs8)
              | (go_at_call 15; refine (same_any (La := x) (Lb := x) (entsAt_row (HS9.out.rowOf (e := 31) (size := 2) (v := .slice pr x.length qr) (n := x.length) (xs := cellsE x) (by simp))) (entsAt_row HS9.out.row) (by omega) (by omega)).mono ?_; rintro r w10 ⟨rfl, ho10⟩; rw [decide_eq_true rfl]; have HS10 := Lib.hid (HS9.out.only ho10); have c10 := (HS10.out.old.cell (block_lt_of_cell HC0.out) (by simp)).trans HC0.out; clear ho10))
            all_goals
              go_wp2_with fail
              go_meet
              exact ⟨rfl, HS10.out.tail.up1.tail.up1.up2.tail⟩
          case rest =>
            obtain ⟨rfl, hs6⟩ := hcut
            have HS6 := Lib.hid hs6; clear hs6 HA HQ HS5 c5
            obtain ⟨W6, rfl⟩ : ∃ W6, W6 = wc := ⟨_, rfl⟩
            go_wp2_with fail
            refine (blast_any HS6.out.bulk hL1).mono ?_
            rintro r w9 ⟨rfl, rfl⟩
            go_wp2_with fail
            refine (rblast_any HS6.out.up1.rb (by omega)).mono ?_
            rintro r w9 ⟨rfl, ho9⟩
            have HS9 := Lib.hid (HS6.out.only ho9); clear ho9 HS6
            obtain ⟨rp, rq, hk0, _⟩ := HS9.out.up1.rb.cell0
            have t1 : ((lastS L1).toList == (lastS L1).toList) = true := beq_self_eq_true _
            have t2 : ((lastS L1).toList != (lastS L1).toList) = false := by rw [bne, t1]; rfl
            have t3 : ((lastK L1).isSome != (lastK L1).isSome) = false := by cases (lastK L1).isSome <;> rfl
            go_wp2_with fail
            go_quiet ((go_at_call 10; refine Calls.quiet_of_same ((blen_any (HS9.out.bulk.only (Only.drewN [] _ _))).mono fun e w' h => ⟨h.1, h.2.symm⟩)))
            go_wp2_with fail
            go_roundw
            case rel => exact ⟨i + 1, L1, by omega, by go_num, hL1, HS9.out.only (Only.drewN [] _ _)⟩
            case measure => simp [intOf]; omega
        · clear HST HLN
          obtain ⟨W1, rfl⟩ : ∃ W1, W1 = wr := ⟨_, rfl⟩
          go_wp2_with fail
          refine (bdone_first HT.out).mono ?_
          rintro r w8 ⟨t, rfl, hs8⟩
          have HS8 := Lib.hid hs8; clear hs8 HT
          go_upto_region 18 with fail
          go_cut [153] (fun s153 wx => s153 = .bool false ∧ Sep w wx [treeRes t f L, bulkRes b f L 1 true, rbRes b0 L])
          case first => as_aux_lemma =>
            obtain ⟨rp, rq, hk0, hents⟩ := HS8.out.up2.rb.cell0
            have HEN := Lib.hid hents; clear hents
            have hra := rangeL_all L hL
            have HR := Lib.hid (range_any (HS8.out.drew.tree) (by omega) ⟨#[]⟩ ⟨#[]⟩ 4096)
            rw [hra] at HR
            clear hra
            go_wp2_with fail
            go_region_held3 (fun w' => w'.cell? ⟨b0, 0, none⟩ = some (.slice rp L.length rq)) (first | go_keep | assumption) (first
              | (go_at_call 16; refine HR.out.mono ?_; rintro r w4 ⟨pr2, qr2, rfl, hs4⟩; have HS4 := Lib.hid hs4; have o4 := (Only.drew [] w8).trans hs4.old (Within.nil _ _); have O4 := Lib.hid o4; have k4 := (o4.cell (block_lt_of_cell hk0) (by simp)).trans hk0; clear hs4 o4)
              | (go_at_call 15; refine (same_any (entsAt_row HS4.out.row) (HEN.out.only O4.out) (by omega) (by omega)).mono ?_; rintro r w5 ⟨rfl, ho5⟩; rw [decide_eq_true rfl]; have O5 := Lib.hid (O4.out.trans ho5 (Within.nil _ _)); have k5 := (O5.out.cell (block_lt_of_cell hk0) (by simp)).trans hk0; clear ho5)
              | (go_at_call 21; refine (depth_any (HS8.out.tree.only O5.out) (by omega)).mono ?_; rintro r w6 ⟨⟨d, rfl, hd, hd5⟩, rfl⟩; have HD := Lib.hid hd; clear hd)
              | (go_at_call 22; refine (rdepth_any L.length f hf3 hf64 (by omega)).mono ?_; rintro r w7 ⟨⟨e, rfl, he⟩, rfl⟩; have hle : decide (e < d) = false := (by have := (depth_le hf3 HD.out he).1; rw [decide_eq_false_iff_not]; omega); clear he))
            all_goals
              go_wp2_with fail
              go_meet
              exact ⟨rfl, HS8.out.only O5.out⟩
          case rest =>
            obtain ⟨rfl, hs9⟩ := hcut
            obtain ⟨W9, rfl⟩ : ∃ W9, W9 = wc := ⟨_, rfl⟩
            obtain ⟨rp, rq, hrb, hrow⟩ := hs9.up2.rb
            have HS9 := Lib.hid hs9
            have hs4 : Sep W9 (W9.alloc (.cells #[] 46)) [rowRes 46 2 (.slice (some ⟨W9.heap.size, 0, none⟩) 0 0) 0 []] := (Sep.nil W9).row_made _ 2
            have HBC := Lib.hid (cell_of_block hrb 0 (v := .slice rp L.length rq) rfl)
            have k0 := (hs4.old.cell (block_lt_of_cell HBC.out) (by simp)).trans HBC.out
            have HSRC := Lib.hid (ents_src ((entsAt_row hrow).only hs4.old))
            have HS4 := Lib.hid hs4
            clear hs4 hrb hrow hs9 HS8
            go_wp2_with (at_builtin; go_must (refine wpList_append_src (w := W9) (e := 46) rfl (.tmp 154) (.tmp 158) 39 rfl ie _ 2 24 Try.underlying39 IE.out rfl (by decide) _ 0 [] rfl rp L.length rq (cellsE L) rfl (by rw [cellsE_length]) HSRC.out (cellsE_one L) HS4.out (by unfold maxLen; omega) (by omega) ?_))
            intro pr qr w5 hs5
            try rw [Nat.zero_add] at hs5
            try rw [List.nil_append] at hs5
            try rw [Nat.zero_add]
            have h6 := (HS9.out.joinNew2 hs5).alloc #[.slice pr L.length qr] 41
            obtain ⟨u, hu⟩ : ∃ u, u = w5.heap.size := ⟨_, rfl⟩
            rw [← hu] at h6
            have h7 : Sep w (w5.alloc (.cells #[.slice pr L.length qr] 41)) (refRes u L :: [treeRes t f L, bulkRes b f L 1 true, rbRes b0 L]) := Sep.close (ps := refParts u L) (pr, qr) h6 trivial
            have h8 : Sep w (w5.alloc (.cells #[.slice pr L.length qr] 41)) [refRes u L, treeRes t f L, bulkRes b f L 1 true] := h7.up3.tail
            have HS8 := Lib.hid h8
            have HU := Lib.hid hu
            clear h6 h7 h8 hu hs5 HS4 HSRC k0 HS9 HBC
            go_wp2_with fail
            rw [← HU.out]
            go_loopw [19] (fun s19 wx => ∃ (i : Nat) (M : List E), i ≤ more.length ∧ s19 = .int .i64 i ∧ M.length ≤ 4096 ∧ Sep w wx [refRes u M, treeRes t f M, bulkRes b f L 1 true]) (fun s19 _ => more.length - (intOf s19).toNat)
            case atStart => exact ⟨0, L, Nat.zero_le _, rfl, hL, HS8.out⟩
            case round =>
              obtain ⟨i, M, hi, rfl, hM, hs⟩ := hrel
              have HT := Lib.hid hs; clear hs HS8
              by_cases hlt : i < more.length
              · obtain ⟨x, hx⟩ : ∃ x, more[i]? = some x := ⟨_, List.getElem?_eq_getElem hlt⟩
                obtain ⟨b', o, rfl, hb', hk1, hn1, c0, c1, c2⟩ := (HSM.out.only HT.out.old) i x hx
                clear hx
                obtain ⟨kind, key, n⟩ := x
                simp only at hk1 hn1 c0 c1 c2
                by_cases hbig : 5000 < key.size
                · go_wp2_with fail
                  refine (wakes_any _).mono ?_
                  rintro e w4 ⟨rfl, ho⟩
                  have HO := Lib.hid ((HT.out.old.trans (Only.alloc _ _ _) (Within.nil _ _)).trans ho (Within.nil _ _)); clear ho
                  go_wp2_with fail
                  go_ret
                  exact ⟨rfl, HO.out⟩
                · have hs1 := HT.out.alloc #[.int .i64 kind, .string key, .int .i64 n] 60
                  obtain ⟨g, hg⟩ : ∃ g, g = wr.heap.size := ⟨_, rfl⟩
                  rw [← hg] at hs1
                  go_upto_region 27 with fail
                  rw [← hg]
                  clear c0 c1 c2 hg HT
                  generalize (wr.alloc (.cells #[.int .i64 kind, .string key, .int .i64 n] 60)) = V at *
                  have HS1 := Lib.hid hs1; clear hs1
                  have e0 := cell_of_block HS1.out.blk 0 (v := .int .i64 kind) rfl
                  have e1 := cell_of_block HS1.out.blk 1 (v := .string key) rfl
                  have e2 := cell_of_block HS1.out.blk 2 (v := .int .i64 n) rfl
                  go_upto_if 179 with fail
                  clear e0
                  go_cut [] (fun wx => ∃ (M' : List E), M'.length ≤ 4096 ∧ Sep w wx [refRes u M', treeRes t f M', bulkRes b f L 1 true])
                  case first => as_aux_lemma =>
                    by_cases k1 : kind = 1
                    · subst k1
                      have hdl : (delL M key).length ≤ 4096 := by rw [delL_length]; omega
                      have HS0 := Lib.hid HS1.out.drew
                      have HTD : Hid (∀ {W l}, Sep w W (treeRes t f M :: l) → _) := fun {W l} h => tdel_any (w := w) (W := W) (l := l) h key (by omega)
                      have HRD : Hid (∀ {W l}, Sep w W (refRes u M :: l) → _) := fun {W l} h => rdel_all (w := w) (W := W) (l := l) h key hM
                      generalize here M key = hb at HTD HRD
                      have hbb := bne_b hb
                      go_wp2_with fail
                      go_region_held3 (fun w' => w'.cell? ⟨g, 1, none⟩ = some (.string key)) (first | go_keep | assumption) (first
                        | (go_at_call 23; first
                          | (refine (HTD.out HS0.out.up2).mono ?_; rintro r w4 ⟨rfl, hs4⟩; have HT1 := Lib.hid hs4; have ke := cell_of_block HT1.out.up1.blk 1 (v := .string key) rfl; clear hs4)
                          | (refine (HTD.out HR1.out.up2).mono ?_; rintro r w5 ⟨rfl, hs5⟩; have HFIN := Lib.hid (hs5.up2.tail.up1); have ke := cell_of_block hs5.up2.blk 1 (v := .string key) rfl; clear hs5))
                        | (go_at_call 24; first
                          | (refine (HRD.out HS0.out.up1).mono ?_; rintro r w4 ⟨rfl, hs4⟩; have HR1 := Lib.hid hs4; have ke := cell_of_block HR1.out.up1.blk 1 (v := .string key) rfl; clear hs4)
                          | (refine (HRD.out HT1.out.up2).mono ?_; rintro r w5 ⟨rfl, hs5⟩; have HFIN := Lib.hid (hs5.up2.tail); have ke := cell_of_block hs5.up2.blk 1 (v := .string key) rfl; clear hs5)))
                      all_goals
                        go_wp2_with fail
                        go_meet
                        exact ⟨_, hdl, HFIN.out⟩
                    · have k1' : (kind == 1) = false := by rw [beq_eq_false_iff_ne]; exact k1
                      clear k1
                      have hpl := putR_len (e := (key, n)) hM
                      have HPT := tput_all HS1.out.up2 key n hM
                      obtain ⟨pl, pb, pe, hp⟩ : ∃ a b c, putR M (key, n) = (a, b, c) := ⟨_, _, _, rfl⟩
                      have HPR : ∀ {W l}, Sep w W (refRes u M :: l) → _ := fun {W l} h => rput_all (w := w) (W := W) (l := l) h key n hM
                      rw [hp] at HPT hpl
                      simp only [hp] at HPR
                      simp only at HPT hpl
                      have hbb := bne_b pb
                      have hee : (pe != pe) = false := by simp
                      go_wp2_with fail
                      refine HPT.mono ?_
                      rintro r w4 ⟨rfl, hs4⟩
                      have HS4 := Lib.hid hs4; clear hs4
                      have d1 := cell_of_block HS4.out.up1.blk 1 (v := .string key) rfl
                      have d2 := cell_of_block HS4.out.up1.blk 2 (v := .int .i64 n) rfl
                      clear e1 e2
                      go_wp2_with fail
                      refine (HPR HS4.out.up2).mono ?_
                      rintro r w5 ⟨rfl, hs5⟩
                      have HS5 := Lib.hid hs5; clear hs5 d1 d2
                      go_wp2_with fail
                      go_meet
                      exact ⟨pl, hpl, HS5.out.up2.tail⟩
                  case rest =>
                    obtain ⟨M', hM', hs2⟩ := hcut
                    have HS2 := Lib.hid hs2; clear hs2 HS1 e1 e2
                    obtain ⟨V2, rfl⟩ : ∃ V2, V2 = wc := ⟨_, rfl⟩
                    obtain ⟨rp, rq, hk0, _⟩ := HS2.out.ref.cell0
                    have HTR := Lib.hid (HS2.out.up1.drew.tree)
                    go_wp2_with fail
                    go_region_held3 (fun w' => w'.cell? ⟨u, 0, none⟩ = some (.slice rp M'.length rq)) (first | go_keep | assumption) (first
                      | (go_at_call 21; refine (depth_any HTR.out (by omega)).mono ?_; rintro r w6 ⟨⟨d, rfl, hd, hd5⟩, rfl⟩; have HD := Lib.hid hd; clear hd)
                      | (go_at_call 22; refine (rdepth_any M'.length f hf3 hf64 (by omega)).mono ?_; rintro r w7 ⟨⟨e, rfl, he⟩, rfl⟩; have hle : decide (e < d) = false := (by have := (depth_le hf3 HD.out he).1; rw [decide_eq_false_iff_not]; omega); have hle2 : ¬ e < d := (by have := (depth_le hf3 HD.out he).1; omega); clear he))
                    all_goals
                      go_wp2_with fail
                      go_roundw
                      case rel => exact ⟨i + 1, M', by omega, by go_num, hM', HS2.out.drew⟩
                      case measure => simp [intOf]; omega
              · obtain ⟨W3, rfl⟩ : ∃ W3, W3 = wr := ⟨_, rfl⟩
                obtain ⟨rp, rq, hk0, hents⟩ := HT.out.ref.cell0
                have HEN := Lib.hid hents; clear hents
                have hra := rangeL_all M hM
                have HR := Lib.hid (range_any (HT.out.up1.drew.tree) (by omega) ⟨#[]⟩ ⟨#[]⟩ 4096)
                rw [hra] at HR
                clear hra
                go_wp2_with fail
                go_region_held3 (fun w' => w'.cell? ⟨u, 0, none⟩ = some (.slice rp M.length rq)) (first | go_keep | assumption) (first
                  | (go_at_call 16; refine HR.out.mono ?_; rintro r w4 ⟨pr2, qr2, rfl, hs4⟩; have HS4 := Lib.hid hs4; have o4 := (Only.drew [] W3).trans hs4.old (Within.nil _ _); have O4 := Lib.hid o4; have k4 := (o4.cell (block_lt_of_cell hk0) (by simp)).trans hk0; clear hs4 o4)
                  | (go_at_call 15; refine (same_any (entsAt_row HS4.out.row) (HEN.out.only O4.out) (by omega) (by omega)).mono ?_; rintro r w5 ⟨rfl, ho5⟩; rw [decide_eq_true rfl]; have O5 := Lib.hid (O4.out.trans ho5 (Within.nil _ _)); have k5 := (O5.out.cell (block_lt_of_cell hk0) (by simp)).trans hk0; clear ho5)
                  | (go_at_call 9; refine (badd_over ((HT.out.up2.bulk).only O5.out) none 0 0).mono ?_; rintro r w6 ⟨rfl, rfl⟩)
                  | (go_at_call 11; refine (wakes_any _).mono ?_; rintro r w7 ⟨rfl, ho7⟩; have O7 := Lib.hid (O5.out.trans ho7 (Within.nil _ _)); have k7 := (O7.out.cell (block_lt_of_cell hk0) (by simp)).trans hk0; clear ho7))
                all_goals
                  go_wp2_with fail
                  go_ret
                  exact ⟨rfl, HT.out.old.trans O7.out (Within.nil _ _)⟩

theorem walk (fan : Int) (p : Option Addr) (l : List (List E)) (q : Nat) (pm : Option Addr) (more : List StepD) (qm : Nat) (w : World) (hf : -9223372036854775808 ≤ fan ∧ fan ≤ 9223372036854775807) (hl : ((l.length : Nat) : Int) ≤ 9223372036854775807) (hst : EntssAt w p l) (hlm : ((more.length : Nat) : Int) ≤ 9223372036854775807) (hsm : StepsAt w pm more) :
    Calls Try.prog 6 #[.int .i64 fan, .slice p l.length q, .slice pm more.length qm] w fun e w' => e = .returned (.bool true) ∧ Only [] w w' := by
  by_cases h : fan < 3 ∨ 64 < fan
  · exact bad fan p l q pm more qm w h
  · obtain ⟨f, rfl⟩ : ∃ f : Nat, fan = (f : Int) := ⟨fan.toNat, by omega⟩
    exact good f p l q pm more qm w (by omega) (by omega) hl hst hlm hsm

theorem own : ownKnob Try.prog.godebug = none := by kernel_rfl
theorem laidOut : laidOutB Try.prog = true := by kernel_rfl

set_option maxRecDepth 100000 in
theorem lifted (os : Os) (started : os.Started) (H : Type) (enc : TypeId × Value → H) :
    ReturnsInHanded {} Try.checked os 6 .any (Rows.bulkPlaysSpec.pre6 enc Try.prog Try.f6 Rows.bulkPlaysRow.domain false) (Rows.bulkPlaysSpec.post enc Try.prog Try.f6 false true false false) := by
  refine returnsInHanded_of_change (C := Try.checked) own started (by kernel_rfl) Try.func6
    (ChangeSpec.witness6 (enc := enc) (C := Try.checked) false ⟨#[], #[.int .i64 0, .slice none 0 0, .slice none 0 0], []⟩ 8 (by kernel_rfl) (by kernel_rfl) (by kernel_rfl) (by kernel_rfl)) ?_
  intro W base args ds gs before hval0 hW hcnd _
  have hval : ∀ (j : Nat) t v, Try.f6.params[j]? = some t → args[j]? = some v → Value.okWide Try.prog W .any base t v := hval0
  have hW' := hW
  obtain ⟨pp, pq, hA0, hV, rfl, hfz, hnd⟩ := hW
  have hA : DataW.TrodAll enc Try.prog W 0 (fun _ => true) true Try.f6.params.toList args.toList ds pp := hA0
  rw [Try.params6] at hA hval
  obtain ⟨v0, vs0, d0, ds0, p0, q0, hargs, rfl, rfl, h0, r0⟩ := trodAll_cons hA
  obtain ⟨v1, vs1, d1, ds1, p1, q1, rfl, rfl, rfl, h1, r1⟩ := trodAll_cons r0
  obtain ⟨v2, vs2, d2, ds2, p2, q2, rfl, rfl, rfl, h2, r2⟩ := trodAll_cons r1
  obtain ⟨rfl, rfl, rfl⟩ := trodAll_nil r2
  obtain rfl : args = #[v0, v1, v2] := by cases args; simp_all
  obtain ⟨rfl, rfl⟩ := trodVars_none hV
  obtain ⟨a0, rfl, rfl, rfl, w0⟩ := open_int Try.underlying3 (hval 0 3 v0 rfl rfl) h0
  obtain ⟨sp1, sl1, sq1, rfl, hl1, hst1⟩ := open_entss (W := W) (v := v1) (by
    obtain ⟨a, len, cap, rfl⟩ := okWide_slice Try.underlying52 (hval 1 52 v1 rfl rfl)
    exact ⟨a, len, cap, rfl⟩) h1
  obtain ⟨sp2, sl2, sq2, rfl, hl2, hst2⟩ := open_steps (W := W) (v := v2) (by
    obtain ⟨a, len, cap, rfl⟩ := okWide_slice Try.underlying58 (hval 2 58 v2 rfl rfl)
    exact ⟨a, len, cap, rfl⟩) h2
  clear hA0 hval0
  simp only [List.append_nil] at hW'
  refine (walk a0 sp1 sl1 sq1 sp2 sl2 sq2 W (bounds_i64 w0) hl1 hst1 hl2 hst2).mono fun e W' ⟨he, hg⟩ => ?_
  subst he
  have hb : Below W.heap.size W W' := hg.below (Nat.le_refl _) (by simp)
  have hargs := (trodAll_cons_mk (shut_int Try.underlying3 w0) (trodAll_cons_mk (Below.trod laidOut (by kernel_rfl) (of_decide_eq_true (by kernel_rfl)) h1 hb (fun x hx => hW'.lt x (by simp [hx]))) (trodAll_cons_mk (Below.trod laidOut (by kernel_rfl) (of_decide_eq_true (by kernel_rfl)) h2 hb (fun x hx => hW'.lt x (by simp [hx]))) trodAll_mk0)))
  simp only [List.append_nil] at hargs
  exact ⟨_, rfl, _, _, _, [], _, [], hW', trodAll_cons_mk (shut_bool Try.underlying4 _) trodAll_mk0, hargs, rfl, hb.frame _, fun h => by cases h⟩

theorem over : Rows.bulkPlaysRow.holds Try.pinned (OpenSpec.ofChange Rows.bulkPlaysSpec) :=
  OpenClaim.holds_of_wide 6 Try.f6 rfl rfl rfl rfl rfl rfl rfl ⟨rfl, rfl, rfl, rfl, rfl⟩ rfl rfl rfl rfl rfl (by kernel_rfl) Try.func6 (by kernel_rfl)
    (of_decide_eq_true (by kernel_rfl)) (by unfold Func.isWrapper; first | (rw [if_pos (by decide +kernel)]; kernel_rfl) | (rw [if_neg (by decide +kernel)]; exact ⟨rfl, rfl⟩))
    (fun os started H enc _ => lifted os started H enc)

theorem proved : Rows.BulkPlaysSaid := over
#print axioms proved
end Go.Proofs.Ytpaffpiaoanegaa.bulkPlays
