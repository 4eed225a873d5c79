/-
  What is proved here: the statement PageOthers: what is no page tells that it is none, whatever is asked; a page's size is a sector's; for every input.
  No condition.
-/
import Derived.Test.YtbikgahobkbpaaaLaw06
import Derived.ProofKit
import Derived.OpenShut
namespace Go.Proofs.Ytbikgahobkbpaaa.pageOthers
open Go.ChangeShapes Go.WideShapes Go.ChangeAt Go.RowKit Go.Proofs.Ytbikgahobkbpaaa
set_option linter.unusedVariables false

theorem insertS_none {p s : ByteArray} (h : rowsM p = none) : insertS p s = (⟨#[]⟩, 0, 11) := by unfold insertS; rw [h]
theorem putP_none {p s : ByteArray} {k : Int} (h : rowsM p = none) : putP p k s = (⟨#[]⟩, 11) := by unfold putP; rw [h]
theorem delP_none {p : ByteArray} {k : Int} (h : rowsM p = none) : delP p k = (⟨#[]⟩, 11) := by unfold delP; rw [h]
theorem getP_none {p : ByteArray} {k : Int} (h : rowsM p = none) : getP p k = (⟨#[]⟩, 11) := by unfold getP; rw [h]
theorem freeP_none {p : ByteArray} (h : rowsM p = none) : freeP p = -1 := by unfold freeP; rw [h]
theorem slotsP_none {p : ByteArray} (h : rowsM p = none) : slotsP p = [] := by unfold slotsP; rw [h]; rfl
theorem goodS_none {p : ByteArray} (h : rowsM p = none) : goodS p = false := by unfold goodS; rw [h]; rfl

set_option maxRecDepth 100000 in
set_option maxHeartbeats 1000000 in
theorem walk (p s : ByteArray) (k : Int) (w : World) (_hp : p.size ≤ maxLen) (_hs : s.size ≤ maxLen) (hk : -9223372036854775808 ≤ k ∧ k ≤ 9223372036854775807) :
    Calls Try.prog 8 #[.string p, .string s, .int .i64 k] w fun e w' => e = .returned (.bool true) ∧ Only [] w w' := by
  by_cases hbig : 5000 < p.size ∨ 3000 < s.size
  · have hb : 5000 < p.size ∨ (¬ 5000 < p.size ∧ 3000 < s.size) := by omega
    clear hbig
    rcases hb with hb | ⟨hb1, hb2⟩
    all_goals
      go_enter Try.func8, Try.ntmps8
      go_wp2_with fail
      refine (wakes_any _).mono ?_
      rintro e w2 ⟨rfl, ho⟩
      have HO := Lib.hid ho; clear ho
      go_wp2_with fail
      go_ret
      exact ⟨rfl, HO.out⟩
  · have hp : p.size ≤ 5000 := by omega
    have hs : s.size ≤ 3000 := by omega
    clear hbig
    cases hM : rowsM p with
    | some l =>
      have hG := goodS_some hM
      have hsz : p.size = 512 := by
        obtain ⟨h1, _, h3⟩ := rowsM_some hM
        rw [← h3]; exact enc_size h1
      have HG := Lib.hid hG; clear hG hM
      go_enter Try.func8, Try.ntmps8
      go_wp2_with fail
      refine (good_any p _ (by omega)).mono ?_
      rintro e w1 ⟨rfl, ho1⟩
      have HO1 := Lib.hid ho1; clear ho1
      rw [HG.out]
      go_wp2_with fail
      refine (wakes_any _).mono ?_
      rintro e w2 ⟨rfl, ho⟩
      have HO := Lib.hid (HO1.out.trans ho (Within.nil _ _)); clear ho
      go_wp2_with fail
      go_ret
      exact ⟨rfl, HO.out⟩
    | none =>
      have HM := Lib.hid hM; clear hM
      go_enter Try.func8, Try.ntmps8
      go_wp2_with fail
      refine (good_any p _ (by omega)).mono ?_
      rintro e w1 ⟨rfl, ho1⟩
      have O1 := Lib.hid ho1; clear ho1
      rw [goodS_none HM.out]
      go_wp2_with fail
      refine (insert_any p s _ (by omega) (by omega)).mono ?_
      rintro e w2 ⟨rfl, ho⟩
      have O2 := Lib.hid (O1.out.trans ho (Within.nil _ _)); clear ho
      rw [insertS_none HM.out]
      go_wp2_with fail
      refine (putp_any p k s _ (by omega) (by omega)).mono ?_
      rintro e w3 ⟨rfl, ho⟩
      have O3 := Lib.hid (O2.out.trans ho (Within.nil _ _)); clear ho
      rw [putP_none HM.out]
      go_wp2_with fail
      refine (delp_any p k _ (by omega)).mono ?_
      rintro e w4 ⟨rfl, ho⟩
      have O4 := Lib.hid (O3.out.trans ho (Within.nil _ _)); clear ho
      rw [delP_none HM.out]
      go_wp2_with fail
      refine (getp_any p k _ (by omega)).mono ?_
      rintro e w5 ⟨rfl, ho⟩
      have O5 := Lib.hid (O4.out.trans ho (Within.nil _ _)); clear ho
      rw [getP_none HM.out]
      go_wp2_with fail
      refine (slots_any p (Sep.of_old O5.out) (by omega)).mono ?_
      rintro e w6 ⟨a, b, rfl, hs6⟩
      have O6 := Lib.hid hs6.old; clear hs6
      rw [slotsP_none HM.out]
      go_wp2_with fail
      refine (free_any p _ (by omega)).mono ?_
      rintro e w7 ⟨rfl, ho⟩
      have O7 := Lib.hid (O6.out.trans ho (Within.nil _ _)); clear ho
      rw [freeP_none HM.out]
      go_wp2_with fail
      refine (wakes_any _).mono ?_
      rintro e w8 ⟨rfl, ho⟩
      have O8 := Lib.hid (O7.out.trans ho (Within.nil _ _)); clear ho
      go_wp2_with fail
      go_ret
      exact ⟨rfl, O8.out⟩

theorem own : ownKnob Try.prog.godebug = none := by kernel_rfl
theorem laidOut : laidOutB Try.prog = true := by kernel_rfl

set_option maxRecDepth 100000 in
theorem lifted (os : Os) (started : os.Started) (H : Type) (enc : TypeId × Value → H) :
    ReturnsInHanded {} Try.checked os 8 .any (Rows.pageOthersSpec.pre6 enc Try.prog Try.f8 Rows.pageOthersRow.domain false) (Rows.pageOthersSpec.post enc Try.prog Try.f8 false true false false) := by
  refine returnsInHanded_of_change (C := Try.checked) own started (by kernel_rfl) Try.func8
    (ChangeSpec.witness6 (enc := enc) (C := Try.checked) false ⟨#[], #[.string ⟨#[]⟩, .string ⟨#[]⟩, .int .i64 0], []⟩ 8 (by kernel_rfl) (by kernel_rfl) (by kernel_rfl) (by kernel_rfl)) ?_
  intro W base args ds gs before hval0 hW hcnd _
  have hval : ∀ (j : Nat) t v, Try.f8.params[j]? = some t → args[j]? = some v → Value.okWide Try.prog W .any base t v := hval0
  have hW' := hW
  obtain ⟨pp, pq, hA0, hV, rfl, hfz, hnd⟩ := hW
  have hA : DataW.TrodAll enc Try.prog W 0 (fun _ => true) true Try.f8.params.toList args.toList ds pp := hA0
  rw [Try.params8] at hA hval
  obtain ⟨v0, vs0, d0, ds0, p0, q0, hargs, rfl, rfl, h0, r0⟩ := trodAll_cons hA
  obtain ⟨v1, vs1, d1, ds1, p1, q1, rfl, rfl, rfl, h1, r1⟩ := trodAll_cons r0
  obtain ⟨v2, vs2, d2, ds2, p2, q2, rfl, rfl, rfl, h2, r2⟩ := trodAll_cons r1
  obtain ⟨rfl, rfl, rfl⟩ := trodAll_nil r2
  obtain rfl : args = #[v0, v1, v2] := by cases args; simp_all
  obtain ⟨rfl, rfl⟩ := trodVars_none hV
  obtain ⟨s0, rfl, rfl, rfl, w0⟩ := Go.ChangeMaps.open_string Try.underlying9 (hval 0 9 v0 rfl rfl) h0
  obtain ⟨s1, rfl, rfl, rfl, w1⟩ := Go.ChangeMaps.open_string Try.underlying9 (hval 1 9 v1 rfl rfl) h1
  obtain ⟨a2, rfl, rfl, rfl, w2⟩ := open_int Try.underlying3 (hval 2 3 v2 rfl rfl) h2
  clear hA0 hval0
  simp only [List.append_nil] at hW'
  refine (walk s0 s1 a2 W w0 w1 (bounds_i64 w2)).mono fun e W' ⟨he, hg⟩ => ?_
  subst he
  have hb : Below W.heap.size W W' := hg.below (Nat.le_refl _) (by simp)
  exact ⟨_, rfl, _, _, _, [], _, [], hW', trodAll_cons_mk (shut_bool Try.underlying4 _) trodAll_mk0, (trodAll_cons_mk (Go.ChangeMaps.shut_string Try.underlying9 w0) (trodAll_cons_mk (Go.ChangeMaps.shut_string Try.underlying9 w1) (trodAll_cons_mk (shut_int Try.underlying3 w2) trodAll_mk0))), rfl, hb.frame _, fun h => by cases h⟩

theorem over : Rows.pageOthersRow.holds Try.pinned (OpenSpec.ofChange Rows.pageOthersSpec) :=
  OpenClaim.holds_of_wide 8 Try.f8 rfl rfl rfl rfl rfl rfl rfl ⟨rfl, rfl, rfl, rfl, rfl⟩ rfl rfl rfl rfl rfl (by kernel_rfl) Try.func8 (by kernel_rfl)
    (of_decide_eq_true (by kernel_rfl)) (by unfold Func.isWrapper; first | (rw [if_pos (by decide +kernel)]; kernel_rfl) | (rw [if_neg (by decide +kernel)]; exact ⟨rfl, rfl⟩))
    (fun os started H enc _ => lifted os started H enc)

theorem proved : Rows.PageOthersSaid := over
#print axioms proved
end Go.Proofs.Ytbikgahobkbpaaa.pageOthers
