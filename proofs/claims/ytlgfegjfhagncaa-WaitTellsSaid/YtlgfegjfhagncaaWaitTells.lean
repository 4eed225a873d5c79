/-
  What is proved here: the statement WaitTells.
  No condition.
-/
import Derived.Test.YtlgfegjfhagncaaRef13R
import Derived.ProofKit
import Derived.OpenShut
import Derived.HandedShaped
set_option linter.unusedSimpArgs false
set_option linter.unusedVariables false
namespace Go.Proofs.Ytlgfegjfhagncaa.waitTells
open Go.RowKit Go.ChangeShapes Go.WideShapes Go.Deep Go.Proofs.Ytlgfegjfhagncaa

theorem ints_same {W : World} {pa pb : Option Addr} {L : List Int} (qa qb : Nat) (hA : IntsAt W pa L) (hB : IntsAt W pb L) (hl : L.length ≤ 100000) :
    Calls Try.prog 11 #[.slice pa L.length qa, .slice pb L.length qb] W fun r W' => r = .returned (.bool true) ∧ Only [] W W' :=
  (ints_any qa qb hA hB hl hl).mono (by rintro r w ⟨rfl, ho⟩; exact ⟨by simp, ho⟩)

set_option maxRecDepth 100000 in
set_option maxHeartbeats 8000000 in
theorem walk (sp : Option Addr) (l : Edges) (sq : Nat) (a : Int) (W : World) (hl : ((l.length : Nat) : Int) ≤ 9223372036854775807) (hst : EdgesOk l ∧ EdgesAt W sp l) (_ha : -9223372036854775808 ≤ a ∧ a ≤ 9223372036854775807) :
    Calls Try.prog 3 #[.slice sp l.length sq, .int .i64 a] W fun e w' => e = .returned (.bool true) ∧ Only [] W w' := by
  have HOK := Lib.hid hst.1
  have HE := Lib.hid hst.2
  clear hst
  by_cases h60 : 60 < l.length
  · go_enter Try.func3, Try.ntmps3
    go_wp2_with fail
    refine (wakes_any _).mono ?_
    rintro r w1 ⟨rfl, ho⟩
    have HO := Lib.hid ho; clear ho
    go_wp2_with fail
    go_ret
    exact ⟨rfl, HO.out⟩
  · have h60' : l.length ≤ 60 := by omega
    go_enter Try.func3, Try.ntmps3
    go_wp2_with fail
    refine (few_any sq HE.out (by omega)).mono ?_
    rintro r w1 ⟨p1, q1, rfl, he1, ho1⟩
    have HI1 := Lib.hid he1
    have HO1 := Lib.hid ho1
    clear he1 ho1
    go_wp2_with fail
    refine (pvictim_any q1 HI1.out HOK.out (by omega)).mono ?_
    rintro r w2 ⟨cs, rfl, hc, ho2⟩
    have HC := Lib.hid hc
    have HO2 := Lib.hid (HO1.out.trans ho2 (Within.nil _ _))
    have HI2 := Lib.hid (HI1.out.only ho2)
    clear hc ho2 HO1 HI1
    obtain ⟨v, hv⟩ : ∃ v, v = lastI cs := ⟨_, rfl⟩
    obtain ⟨ok, hok⟩ : ∃ ok, ok = decide (cs ≠ []) := ⟨_, rfl⟩
    have hvv : (v == v) = true := by simp
    rw [← hv, ← hok]
    have HV := Lib.hid hv
    have HK := Lib.hid hok
    clear hv hok
    go_wp2_with fail
    refine (rvictim_any sq (HE.out.only HO2.out) (by omega)).mono ?_
    rintro r w3 ⟨ds, rfl, hd, ho3⟩
    obtain rfl := HC.out.ext (fun _ => Iff.rfl) hd
    have HO3 := Lib.hid (HO2.out.trans ho3 (Within.nil _ _))
    have HI3 := Lib.hid (HI2.out.only ho3)
    clear hd ho3 HO2 HI2
    rw [← HV.out, ← HK.out]
    clear HV HK
    cases ok
    all_goals as_aux_lemma =>
      go_wp2_with fail
      refine (reachl_any q1 HI3.out HOK.out (by omega) a).mono ?_
      rintro r w4 ⟨xs, p4, q4, rfl, hr, hi4, ho4⟩
      have hxl := hr.le
      have HR := Lib.hid hr
      have HX4 := Lib.hid hi4
      have HO4 := Lib.hid (HO3.out.trans ho4 (Within.nil _ _))
      have HI4 := Lib.hid (HI3.out.only ho4)
      clear hr hi4 ho4 HO3 HI3
      go_wp2_with fail
      refine (rreach_any sq (HE.out.only HO4.out) (by omega) a).mono ?_
      rintro r w5 ⟨ys, p5, q5, rfl, hr5, hi5, ho5⟩
      obtain rfl := HR.out.ext (fun _ => Iff.rfl) hr5
      have HY5 := Lib.hid hi5
      have HX5 := Lib.hid (HX4.out.only ho5)
      have HO5 := Lib.hid (HO4.out.trans ho5 (Within.nil _ _))
      have HI5 := Lib.hid (HI4.out.only ho5)
      clear hr5 hi5 ho5 HO4 HI4 HX4
      go_wp2_with fail
      refine (ints_same q4 q5 HX5.out HY5.out (by omega)).mono ?_
      rintro r w6 ⟨rfl, ho6⟩
      have HO6 := Lib.hid (HO5.out.trans ho6 (Within.nil _ _))
      have HI6 := Lib.hid (HI5.out.only ho6)
      clear ho6 HO5 HI5 HX5 HY5
      go_wp2_with fail
      refine (circlel_any q1 HI6.out HOK.out (by omega)).mono ?_
      rintro r w7 ⟨es, p7, q7, rfl, hr7, hi7, ho7⟩
      have hel := hr7.le
      have HR7 := Lib.hid hr7
      have HX7 := Lib.hid hi7
      have HO7 := Lib.hid (HO6.out.trans ho7 (Within.nil _ _))
      have HI7 := Lib.hid (HI6.out.only ho7)
      clear hr7 hi7 ho7 HO6 HI6
      go_wp2_with fail
      refine (rcircle_any sq (HE.out.only HO7.out) (by omega)).mono ?_
      rintro r w8 ⟨fs, p8, q8, rfl, hr8, hi8, ho8⟩
      obtain rfl := HR7.out.ext (fun _ => Iff.rfl) hr8
      have HY8 := Lib.hid hi8
      have HX8 := Lib.hid (HX7.out.only ho8)
      have HO8 := Lib.hid (HO7.out.trans ho8 (Within.nil _ _))
      have HI8 := Lib.hid (HI7.out.only ho8)
      clear hr8 hi8 ho8 HO7 HI7 HX7
      go_wp2_with fail
      refine (ints_same q7 q8 HX8.out HY8.out (by omega)).mono ?_
      rintro r w9 ⟨rfl, ho9⟩
      have HO9 := Lib.hid (HO8.out.trans ho9 (Within.nil _ _))
      have HI9 := Lib.hid (HI8.out.only ho9)
      clear ho9 HO8 HI8 HX8 HY8
      go_wp2_with fail
      refine (same_any q1 sq HI9.out (HE.out.only HO9.out) (by omega)).mono ?_
      rintro r w10 ⟨rfl, ho10⟩
      have HO10 := Lib.hid (HO9.out.trans ho10 (Within.nil _ _))
      clear ho10 HO9 HI9
      go_wp2_with fail
      refine (wakes_any _).mono ?_
      rintro r w11 ⟨rfl, ho11⟩
      have HO11 := Lib.hid (HO10.out.trans ho11 (Within.nil _ _))
      clear ho11 HO10
      go_wp2_with fail
      go_ret
      exact ⟨rfl, HO11.out⟩

theorem own : ownKnob Try.prog.godebug = none := by kernel_rfl
theorem laidOut : laidOutB Try.prog = true := by kernel_rfl

set_option maxRecDepth 100000 in
theorem lifted (os : Os) (started : os.Started) (H : Type) (enc : TypeId × Value → H) :
    ReturnsInHanded {} Try.checked os 3 .any (Rows.waitTellsSpec.pre6 enc Try.prog Try.f3 Rows.waitTellsRow.domain false) (Rows.waitTellsSpec.post enc Try.prog Try.f3 false true false false) := by
  refine returnsInHanded_of_change (C := Try.checked) own started (by kernel_rfl) Try.func3
    (ChangeSpec.witness6 (enc := enc) (C := Try.checked) false ⟨#[], #[.slice none 0 0, .int .i64 0], []⟩ 8 (by kernel_rfl) (by kernel_rfl) (by kernel_rfl) (by kernel_rfl)) ?_
  intro W base args ds gs before hval0 hW hcnd _
  have hval : ∀ (j : Nat) t v, Try.f3.params[j]? = some t → args[j]? = some v → Value.okWide Try.prog W .any base t v := hval0
  have hW' := hW
  obtain ⟨pp, pq, hA0, hV, rfl, hfz, hnd⟩ := hW
  have hA : DataW.TrodAll enc Try.prog W 0 (fun _ => true) true Try.f3.params.toList args.toList ds pp := hA0
  rw [Try.params3] at hA hval
  obtain ⟨v0, vs0, d0, ds0, p0, q0, hargs, rfl, rfl, h0, r0⟩ := trodAll_cons hA
  obtain ⟨v1, vs1, d1, ds1, p1, q1, rfl, rfl, rfl, h1, r1⟩ := trodAll_cons r0
  obtain ⟨rfl, rfl, rfl⟩ := trodAll_nil r1
  obtain rfl : args = #[v0, v1] := by cases args; simp_all
  obtain ⟨rfl, rfl⟩ := trodVars_none hV
  obtain ⟨sp0, sl0, sq0, rfl, hl0, hst0⟩ := open_edges (W := W) (v := v0) (by
    obtain ⟨a, len, cap, rfl⟩ := okWide_slice Try.underlying22 (hval 0 22 v0 rfl rfl)
    exact ⟨a, len, cap, rfl⟩) h0
  obtain ⟨a1, rfl, rfl, rfl, w1⟩ := open_int Try.underlying3 (hval 1 3 v1 rfl rfl) h1
  clear hA0 hval0
  simp only [List.append_nil] at hW'
  refine (walk sp0 sl0 sq0 a1 W hl0 hst0 (bounds_i64 w1)).mono fun e W' ⟨he, hg⟩ => ?_
  subst he
  have hb : Below W.heap.size W W' := hg.below (Nat.le_refl _) (by simp)
  have hargs := (trodAll_cons_mk (Below.trod laidOut (by kernel_rfl) (of_decide_eq_true (by kernel_rfl)) h0 hb (fun x hx => hW'.lt x (by simp [hx]))) (trodAll_cons_mk (shut_int Try.underlying3 w1) trodAll_mk0))
  simp only [List.append_nil] at hargs
  exact ⟨_, rfl, _, _, _, [], _, [], hW', trodAll_cons_mk (shut_bool Try.underlying4 _) trodAll_mk0, hargs, rfl, hb.frame _, fun h => by cases h⟩

theorem over : Rows.waitTellsRow.holds Try.pinned (OpenSpec.ofChange Rows.waitTellsSpec) :=
  OpenClaim.holds_of_wide 3 Try.f3 rfl rfl rfl rfl rfl rfl rfl ⟨rfl, rfl, rfl, rfl, rfl⟩ rfl rfl rfl rfl rfl (by kernel_rfl) Try.func3 (by kernel_rfl)
    (of_decide_eq_true (by kernel_rfl)) (by unfold Func.isWrapper; first | (rw [if_pos (by decide +kernel)]; kernel_rfl) | (rw [if_neg (by decide +kernel)]; exact ⟨rfl, rfl⟩))
    (fun os started H enc _ => lifted os started H enc)

theorem proved : Rows.WaitTellsSaid := over
#print axioms proved
end Go.Proofs.Ytlgfegjfhagncaa.waitTells
