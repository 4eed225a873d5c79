/-
  What is proved here: the statement BulkKeeps: what is refused changes nothing: neither how many there are, nor the last one, nor the tree; for every input.
  No condition.
-/
import Derived.Test.YtpaffpiaoanegaaBulkN
import Derived.Test.YtpaffpiaoanegaaBulkW
import Derived.Test.YtpaffpiaoanegaaArgs11
import Derived.Test.YtpaffpiaoanegaaPlayM10
import Derived.ProofKit
import Derived.OpenShut
import Derived.HandedShaped
import Derived.Deep.DeepCutAuto
import Derived.Deep.CutBlock
namespace Go.Proofs.Ytpaffpiaoanegaa.bulkKeeps
open Go.ChangeShapes Go.WideShapes Go.ChangeAt Go.RowKit Go.Proofs.Ytpaffpiaoanegaa
set_option linter.unusedVariables false

set_option maxRecDepth 100000 in
set_option maxHeartbeats 4000000 in
theorem walk (pg : Option Addr) (good : List E) (qg : Nat) (pb : Option Addr) (bad : List E) (qb : Nat) (w : World) (hlg : ((good.length : Nat) : Int) ≤ 9223372036854775807) (hg : EntsAt w pg good) (hlb : ((bad.length : Nat) : Int) ≤ 9223372036854775807) (hb : EntsAt w pb bad) :
    Calls Try.prog 5 #[.slice pg good.length qg, .slice pb bad.length qb] w fun e w' => e = .returned (.bool true) ∧ Only [] w w' := by
  have HG := Lib.hid hg; clear hg
  have HB := Lib.hid hb; clear hb
  have mixed : Try.prog.follows .mixedOrders = true := by kernel_rfl
  obtain ⟨it, IT⟩ := info_of Try.infoEnt
  have ho1 := Only.alloc [] w (.cells #[.slice pg good.length qg, .slice pb bad.length qb] 32)
  have hblk : (w.alloc (.cells #[.slice pg good.length qg, .slice pb bad.length qb] 32)).heap[w.heap.size]? = some (.cells #[.slice pg good.length qg, .slice pb bad.length qb] 32 (0, 0)) := heap_alloc_self
  have HF : Hid (EntssAt (w.alloc (.cells #[.slice pg good.length qg, .slice pb bad.length qb] 32)) (some ⟨w.heap.size, 0, none⟩) [good, bad]) := by
    intro k x hx
    match k, hx with
    | 0, hx => cases hx; exact ⟨_, 0, pg, qg, rfl, lt_of_block hblk, cell_of_block hblk 0 rfl, hlg, HG.out.only ho1⟩
    | 1, hx => cases hx; exact ⟨_, 0, pb, qb, rfl, lt_of_block hblk, cell_of_block hblk 1 rfl, hlb, HB.out.only ho1⟩
  have HO1 := Lib.hid ho1
  clear ho1 hblk
  cases hf : fairE [good, bad] with
  | false =>
    go_enter Try.func5, Try.ntmps5
    go_wp2_with fail
    refine (fair_any _ [good, bad] 2 _ (by simp) HF.out).mono ?_
    rintro e w3 ⟨rfl, rfl⟩
    rw [hf]
    clear hf
    go_wp2_with fail
    refine (wakes_any _).mono ?_
    rintro e w4 ⟨rfl, ho⟩
    have HO := Lib.hid (HO1.out.trans ho (Within.nil _ _)); clear ho
    go_wp2_with fail
    go_ret
    exact ⟨rfl, HO.out⟩
  | true =>
    obtain ⟨_, hlens⟩ := fairE_true hf
    have hg5 := hlens good (by simp)
    have hb5 := hlens bad (by simp)
    clear hlens
    have hn := bnew_any (Sep.of_old HO1.out) 5 (by omega) (by omega)
    rw [show ((5 : Nat) : Int) = 5 from rfl] at hn
    have HN := Lib.hid hn; clear hn
    go_enter Try.func5, Try.ntmps5
    go_wp2_with fail
    refine (fair_any _ [good, bad] 2 _ (by simp) HF.out).mono ?_
    rintro e w3 ⟨rfl, rfl⟩
    rw [hf]
    clear hf
    go_wp2_with fail
    refine HN.out.mono ?_
    rintro e w2 ⟨a, rfl, hs2⟩
    have hs3 := (rb_new hs2).up1
    obtain ⟨b0, hb0⟩ : ∃ b0, b0 = w2.heap.size := ⟨_, rfl⟩
    rw [← hb0] at hs3
    have HS3 := Lib.hid hs3
    have HB0 := Lib.hid hb0
    clear hs3 hb0 hs2 HN HF HO1
    go_upto_region 7 with fail
    rw [← HB0.out]
    obtain ⟨V, hV⟩ : ∃ V, V = w2.alloc (.cells #[.slice none 0 0] 54) := ⟨_, rfl⟩
    rw [← hV] at HS3 ⊢
    clear hV HB0
    have hs4 : Sep V (V.alloc (.cells #[] 31)) [rowRes 31 2 (.slice (some ⟨V.heap.size, 0, none⟩) 0 0) 0 []] := (Sep.nil V).row_made _ 2
    have HSRC := Lib.hid (ents_src ((HG.out.only HS3.out.old).only hs4.old))
    have HS4 := Lib.hid hs4; clear hs4
    go_wp2_with (at_builtin; go_must (refine wpList_append_src (w := V) (e := 31) rfl (.tmp 30) (.tmp 31) 32 rfl it _ 2 24 Try.underlying32 IT.out rfl (by decide) _ 0 [] rfl pg good.length qg (cellsE good) rfl (by rw [cellsE_length]) HSRC.out (cellsE_one good) HS4.out (by unfold maxLen; omega) (by omega) ?_))
    intro pr qr w5 hs5
    try rw [Nat.zero_add] at hs5
    try rw [List.nil_append] at hs5
    try rw [Nat.zero_add]
    have HS5 := Lib.hid (HS3.out.joinNew2 hs5)
    clear hs5 HS4 HSRC
    have hL1 := addR_len (L := []) (l := good) (by simp)
    have HA := Lib.hid (badd_any HS5.out.up1 qr (fun W' L' h => entsAt_row h.up1.row) (by simp) (by omega))
    have HQ : Hid (∀ {W : World} {rest : List Res} {p' : Option Addr} (q' : Nat), Sep w W (rbRes b0 [] :: rest) → EntsAt W p' good → _) := fun {W} {rest} {p'} q' h1 h2 => rbadd_any (w := w) (W := W) (rest := rest) (p := p') h1 q' h2 (by simp) (by omega)
    generalize (addR [] good).1 = L1 at HA HQ hL1
    generalize (addR [] good).2 = c1 at HA HQ
    have hcc : (c1 != c1) = false := by simp
    go_wp2_with fail
    refine HA.out.mono ?_
    rintro r w6 ⟨rfl, hs6⟩
    have HS6 := Lib.hid (hs6.up1.tail); clear hs6 HA HS5 HS3
    go_wp2_with fail
    refine (own_any HS6.out qg (HG.out.only HS6.out.old) (by omega)).mono ?_
    rintro r w7 ⟨p7, q7, rfl, hs7, ho7⟩
    have HS7 := Lib.hid hs7; clear hs7 ho7
    go_wp2_with fail
    refine (HQ.out q7 HS7.out.up2 (entsAt_row HS7.out.row)).mono ?_
    rintro r w8 ⟨rfl, hs8⟩
    have HS8 := Lib.hid (hs8.up1.tail.up1); clear hs8 HQ HS7 HS6
    go_wp2_with fail
    refine (blen_any HS8.out.bulk).mono ?_
    rintro r w9 ⟨rfl, rfl⟩
    go_wp2_with fail
    refine (blast_any HS8.out.bulk hL1).mono ?_
    rintro r w9 ⟨rfl, rfl⟩
    go_upto_region 11 with fail
    have hs4 : Sep w8 (w8.alloc (.cells #[] 31)) [rowRes 31 2 (.slice (some ⟨w8.heap.size, 0, none⟩) 0 0) 0 []] := (Sep.nil w8).row_made _ 2
    have HSRC := Lib.hid (ents_src ((HB.out.only HS8.out.old).only hs4.old))
    have HS4 := Lib.hid hs4; clear hs4
    go_wp2_with (at_builtin; go_must (refine wpList_append_src (w := w8) (e := 31) rfl (.tmp 47) (.tmp 48) 32 rfl it _ 2 24 Try.underlying32 IT.out rfl (by decide) _ 0 [] rfl pb bad.length qb (cellsE bad) rfl (by rw [cellsE_length]) HSRC.out (cellsE_one bad) HS4.out (by unfold maxLen; omega) (by omega) ?_))
    intro pr qr w5 hs5
    try rw [Nat.zero_add] at hs5
    try rw [List.nil_append] at hs5
    try rw [Nat.zero_add]
    have HS9 := Lib.hid (HS8.out.joinNew2 hs5)
    clear hs5 HS4 HSRC
    have HA := Lib.hid (badd_any HS9.out.up1 qr (fun W' L' h => entsAt_row h.up1.row) hL1 (by omega))
    rcases addR_cases L1 bad with ⟨h1, h2⟩ | ⟨h1, h2, h3, h4⟩
    · as_aux_lemma =>
      rw [h1] at HA
      have h2' : ((addR L1 bad).2 != 0) = true := by rw [bne_iff_ne]; exact h2
      clear h1 h2
      generalize (addR L1 bad).2 = c2 at HA h2'
      have t1 : ((lastS L1).toList == (lastS L1).toList) = true := beq_self_eq_true _
      have t2 : ((lastS L1).toList != (lastS L1).toList) = false := by rw [bne, t1]; rfl
      have t3 : ((lastK L1).isSome != (lastK L1).isSome) = false := by cases (lastK L1).isSome <;> rfl
      go_wp2_with fail
      refine HA.out.mono ?_
      rintro r w6 ⟨rfl, hs6⟩
      have HS := Lib.hid (hs6.up1.tail); clear hs6 HA HS9
      go_wp2_with fail
      refine (blast_any HS.out.bulk hL1).mono ?_
      rintro r w9 ⟨rfl, rfl⟩
      go_wp2_with fail
      refine (blen_any HS.out.bulk).mono ?_
      rintro r w9 ⟨rfl, rfl⟩
      go_wp2_with fail
      refine (bdone_first HS.out).mono ?_
      rintro r w8 ⟨t, rfl, hs8⟩
      have HS8 := Lib.hid hs8; clear hs8 HS
      obtain ⟨rp, rq, hk0, hents⟩ := HS8.out.up2.rb.cell0
      have HEN := Lib.hid hents; clear hents
      have hra := rangeL_all L1 hL1
      have HR := Lib.hid (range_any (HS8.out.drew.tree) (by omega) ⟨#[]⟩ ⟨#[]⟩ 4096)
      rw [hra] at HR
      clear hra
      go_wp2_with fail
      go_region_held3 (fun w' => w'.cell? ⟨b0, 0, none⟩ = some (.slice rp L1.length rq)) (first | go_keep | assumption) (first
        | (go_at_call 16; refine HR.out.mono ?_; rintro r w4 ⟨pr2, qr2, rfl, hs4⟩; have HS4 := Lib.hid hs4; have o4 := (Only.drew [] w8).trans hs4.old (Within.nil _ _); have O4 := Lib.hid o4; have k4 := (o4.cell (block_lt_of_cell hk0) (by simp)).trans hk0; clear hs4 o4)
        | (go_at_call 15; refine (same_any (entsAt_row HS4.out.row) (HEN.out.only O4.out) (by omega) (by omega)).mono ?_; rintro r w5 ⟨rfl, ho5⟩; rw [decide_eq_true rfl]; have k5 := (ho5.cell (block_lt_of_cell k4) (by simp)).trans k4; have O5 := Lib.hid (O4.out.trans ho5 (Within.nil _ _)); clear ho5)
        | (go_at_call 11; refine (wakes_any _).mono ?_; rintro r w7 ⟨rfl, ho7⟩; have O7 := Lib.hid (HS8.out.old.trans (O5.out.trans ho7 (Within.nil _ _)) (Within.nil _ _)); have k7 := (ho7.cell (block_lt_of_cell k5) (by simp)).trans k5; clear ho7))
      all_goals
        go_wp2_with fail
        go_ret
        exact ⟨rfl, O7.out⟩
    · as_aux_lemma =>
      have HQ : Hid (∀ {W : World} {rest : List Res} {p' : Option Addr} (q' : Nat), Sep w W (rbRes b0 L1 :: rest) → EntsAt W p' bad → _) := fun {W} {rest} {p'} q' h1 h2 => rbadd_any (w := w) (W := W) (rest := rest) (p := p') h1 q' h2 (by omega) (by omega)
      rw [h1] at HA HQ
      simp only at HA HQ
      have hL2 : (L1 ++ bad).length ≤ 4096 := by rw [List.length_append]; exact h4
      clear h1 h2 h3 h4
      generalize L1 ++ bad = L2 at HA HQ hL2
      go_wp2_with fail
      refine HA.out.mono ?_
      rintro r w6 ⟨rfl, hs6⟩
      have HS6 := Lib.hid (hs6.up1.tail); clear hs6 HA HS9
      go_wp2_with fail
      refine (own_any HS6.out qb (HB.out.only HS6.out.old) (by omega)).mono ?_
      rintro r w7 ⟨p7, q7, rfl, hs7, ho7⟩
      have HS7 := Lib.hid hs7; clear hs7 ho7
      go_wp2_with fail
      refine (HQ.out q7 HS7.out.up2 (entsAt_row HS7.out.row)).mono ?_
      rintro r w8 ⟨rfl, hs8⟩
      have HS := Lib.hid (hs8.up1.tail.up1); clear hs8 HQ HS7 HS6
      go_wp2_with fail
      refine (bdone_first HS.out).mono ?_
      rintro r w8 ⟨t, rfl, hs8⟩
      have HS8 := Lib.hid hs8; clear hs8 HS
      obtain ⟨rp, rq, hk0, hents⟩ := HS8.out.up2.rb.cell0
      have HEN := Lib.hid hents; clear hents
      have hra := rangeL_all L2 hL2
      have HR := Lib.hid (range_any (HS8.out.drew.tree) (by omega) ⟨#[]⟩ ⟨#[]⟩ 4096)
      rw [hra] at HR
      clear hra
      go_wp2_with fail
      go_region_held3 (fun w' => w'.cell? ⟨b0, 0, none⟩ = some (.slice rp L2.length rq)) (first | go_keep | assumption) (first
        | (go_at_call 16; refine HR.out.mono ?_; rintro r w4 ⟨pr2, qr2, rfl, hs4⟩; have HS4 := Lib.hid hs4; have o4 := (Only.drew [] w8).trans hs4.old (Within.nil _ _); have O4 := Lib.hid o4; have k4 := (o4.cell (block_lt_of_cell hk0) (by simp)).trans hk0; clear hs4 o4)
        | (go_at_call 15; refine (same_any (entsAt_row HS4.out.row) (HEN.out.only O4.out) (by omega) (by omega)).mono ?_; rintro r w5 ⟨rfl, ho5⟩; rw [decide_eq_true rfl]; have k5 := (ho5.cell (block_lt_of_cell k4) (by simp)).trans k4; have O5 := Lib.hid (O4.out.trans ho5 (Within.nil _ _)); clear ho5)
        | (go_at_call 11; refine (wakes_any _).mono ?_; rintro r w7 ⟨rfl, ho7⟩; have O7 := Lib.hid (HS8.out.old.trans (O5.out.trans ho7 (Within.nil _ _)) (Within.nil _ _)); have k7 := (ho7.cell (block_lt_of_cell k5) (by simp)).trans k5; clear ho7))
      all_goals
        go_wp2_with fail
        go_ret
        exact ⟨rfl, O7.out⟩

theorem own : ownKnob Try.prog.godebug = none := by kernel_rfl
theorem laidOut : laidOutB Try.prog = true := by kernel_rfl

set_option maxRecDepth 100000 in
theorem lifted (os : Os) (started : os.Started) (H : Type) (enc : TypeId × Value → H) :
    ReturnsInHanded {} Try.checked os 5 .any (Rows.bulkKeepsSpec.pre6 enc Try.prog Try.f5 Rows.bulkKeepsRow.domain false) (Rows.bulkKeepsSpec.post enc Try.prog Try.f5 false true false false) := by
  refine returnsInHanded_of_change (C := Try.checked) own started (by kernel_rfl) Try.func5
    (ChangeSpec.witness6 (enc := enc) (C := Try.checked) false ⟨#[], #[.slice none 0 0, .slice none 0 0], []⟩ 8 (by kernel_rfl) (by kernel_rfl) (by kernel_rfl) (by kernel_rfl)) ?_
  intro W base args ds gs before hval0 hW hcnd _
  have hval : ∀ (j : Nat) t v, Try.f5.params[j]? = some t → args[j]? = some v → Value.okWide Try.prog W .any base t v := hval0
  have hW' := hW
  obtain ⟨pp, pq, hA0, hV, rfl, hfz, hnd⟩ := hW
  have hA : DataW.TrodAll enc Try.prog W 0 (fun _ => true) true Try.f5.params.toList args.toList ds pp := hA0
  rw [Try.params5] at hA hval
  obtain ⟨v0, vs0, d0, ds0, p0, q0, hargs, rfl, rfl, h0, r0⟩ := trodAll_cons hA
  obtain ⟨v1, vs1, d1, ds1, p1, q1, rfl, rfl, rfl, h1, r1⟩ := trodAll_cons r0
  obtain ⟨rfl, rfl, rfl⟩ := trodAll_nil r1
  obtain rfl : args = #[v0, v1] := by cases args; simp_all
  obtain ⟨rfl, rfl⟩ := trodVars_none hV
  obtain ⟨sp0, sl0, sq0, rfl, hl0, hst0⟩ := open_ents (W := W) (v := v0) (by
    obtain ⟨a, len, cap, rfl⟩ := okWide_slice Try.underlying32 (hval 0 32 v0 rfl rfl)
    exact ⟨a, len, cap, rfl⟩) h0
  obtain ⟨sp1, sl1, sq1, rfl, hl1, hst1⟩ := open_ents (W := W) (v := v1) (by
    obtain ⟨a, len, cap, rfl⟩ := okWide_slice Try.underlying32 (hval 1 32 v1 rfl rfl)
    exact ⟨a, len, cap, rfl⟩) h1
  clear hA0 hval0
  simp only [List.append_nil] at hW'
  refine (walk sp0 sl0 sq0 sp1 sl1 sq1 W hl0 hst0 hl1 hst1).mono fun e W' ⟨he, hg⟩ => ?_
  subst he
  have hb : Below W.heap.size W W' := hg.below (Nat.le_refl _) (by simp)
  have hargs := (trodAll_cons_mk (Below.trod laidOut (by kernel_rfl) (of_decide_eq_true (by kernel_rfl)) h0 hb (fun x hx => hW'.lt x (by simp [hx]))) (trodAll_cons_mk (Below.trod laidOut (by kernel_rfl) (of_decide_eq_true (by kernel_rfl)) h1 hb (fun x hx => hW'.lt x (by simp [hx]))) trodAll_mk0))
  simp only [List.append_nil] at hargs
  exact ⟨_, rfl, _, _, _, [], _, [], hW', trodAll_cons_mk (shut_bool Try.underlying4 _) trodAll_mk0, hargs, rfl, hb.frame _, fun h => by cases h⟩

theorem over : Rows.bulkKeepsRow.holds Try.pinned (OpenSpec.ofChange Rows.bulkKeepsSpec) :=
  OpenClaim.holds_of_wide 5 Try.f5 rfl rfl rfl rfl rfl rfl rfl ⟨rfl, rfl, rfl, rfl, rfl⟩ rfl rfl rfl rfl rfl (by kernel_rfl) Try.func5 (by kernel_rfl)
    (of_decide_eq_true (by kernel_rfl)) (by unfold Func.isWrapper; first | (rw [if_pos (by decide +kernel)]; kernel_rfl) | (rw [if_neg (by decide +kernel)]; exact ⟨rfl, rfl⟩))
    (fun os started H enc _ => lifted os started H enc)

theorem proved : Rows.BulkKeepsSaid := over
#print axioms proved
end Go.Proofs.Ytpaffpiaoanegaa.bulkKeeps
