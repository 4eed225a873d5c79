/-
  What is proved here: the statement LockNone: a table that nobody made locks nothing; for every input.
  No condition beyond the row's own (the table of the modes is as the program lays it).
-/
import Derived.Test.YtipfjjcokajjjaaDoorLkY
import Derived.Test.YtipfjjcokajjjaaDoorTie
import Derived.Test.YtipfjjcokajjjaaDoorCards
import Derived.LaidMore
import Derived.Lay
import Derived.SevenTiedAt
import Derived.Stop.Joined
namespace Go.Proofs.YtipfjjcokajjjaaDoor.lockNone
open Go.ChangeShapes Go.WideShapes Go.ChangeAt Go.RowKit Go.Proofs.YtipfjjcokajjjaaDoor
set_option linter.unusedVariables false
set_option linter.unusedSimpArgs false

set_option maxRecDepth 100000 in
set_option maxHeartbeats 2000000 in
theorem walk (k a : Int) (n : ByteArray) (m : Int) (w : World) (htog : Tog w) :
    Calls Tryd.prog 7 #[.agg #[.int .i64 k, .int .i64 a, .string n, .int .i64 m]] w fun e w' => e = .returned (.bool true) ∧ Only [] w w' := by
  obtain ⟨V, hV⟩ : ∃ V, V = w.alloc (.cells #[.int .i64 k, .int .i64 a, .string n, .int .i64 m] 32) := ⟨_, rfl⟩
  have hb : V.heap[w.heap.size]? = some (.cells #[.int .i64 k, .int .i64 a, .string n, .int .i64 m] 32 (0, 0)) := by rw [hV]; exact heap_alloc_self
  have hO : Only [] w V := by rw [hV]; exact Only.alloc [] _ _
  have HB := Lib.hid hb
  have HO := Lib.hid hO
  have HV := Lib.hid hV
  have HT := Lib.hid htog
  clear hV hb hO htog
  go_enter Tryd.func7, Tryd.ntmps7
  go_upto_region 1 with fail
  rw [← HV.out]
  have c1 := cell_of_block HB.out 1 (v := .int .i64 a) rfl
  have c2 := cell_of_block HB.out 2 (v := .string n) rfl
  have c3 := cell_of_block HB.out 3 (v := .int .i64 m) rfl
  go_wp2_with fail
  refine (waits_nil a V).mono ?_
  rintro e w1 ⟨rfl, rfl⟩
  go_wp2_with fail
  refine (take_nil a n m V).mono ?_
  rintro e w1 ⟨rfl, rfl⟩
  go_wp2_with fail
  refine (release_nil a V).mono ?_
  rintro e w2 ⟨rfl, ho2⟩
  have hb2 := ho2.keeps HB.out (by simp)
  have d1 := cell_of_block hb2 1 (v := .int .i64 a) rfl
  have d2 := cell_of_block hb2 2 (v := .string n) rfl
  have HB2 := Lib.hid hb2
  have HO2 := Lib.hid (HO.out.trans ho2 (Within.nil _ _))
  clear hb2 ho2 c1 c2 c3
  go_wp2_with fail
  refine (mode_nil a n w2).mono ?_
  rintro e w3 ⟨rfl, rfl⟩
  go_wp2_with fail
  refine (for_nil a w2).mono ?_
  rintro e w4 ⟨rfl, ho4⟩
  have HO4 := Lib.hid (HO2.out.trans ho4 (Within.nil _ _))
  clear ho4 d1 d2
  go_wp2_with fail
  refine (things_nil w4).mono ?_
  rintro e w5 ⟨rfl, rfl⟩
  go_wp2_with fail
  refine (wakes_any w4 (HT.out.only HO4.out)).mono ?_
  rintro e w6 ⟨rfl, ho6⟩
  have HO6 := Lib.hid (HO4.out.trans ho6 (Within.nil _ _))
  clear ho6
  go_wp2_with fail
  go_ret
  exact ⟨rfl, HO6.out⟩

set_option maxRecDepth 100000 in
theorem lifted (os : Os) (started : os.Started) (H : Type) (enc : TypeId × Value → H) :
    ReturnsInHanded {} Tryd.checked os 7 .any (fun w args => (Rows.lockNoneSpec.pre enc Tryd.prog Tryd.f7 Rows.lockNoneRow.domain false w args ∧ laidMetH Tryd.prog Rows.lockNoneRow.laid w) ∧ sizedMet enc Tryd.prog Tryd.f7 (OpenSpec.ofChange Rows.lockNoneSpec) false w args)
      (Rows.lockNoneSpec.post enc Tryd.prog Tryd.f7 false true false false) := by
  refine returnsInHanded_of_change_and (C := Tryd.checked) (X := fun w _ => laidMetH Tryd.prog Rows.lockNoneRow.laid w) (fun _ _ _ hh h => h.of_heap hh) own started (by kernel_rfl) Tryd.func7
    (ChangeSpec.witness_shaped (enc := enc) (C := Tryd.checked) (os := os) (X := fun w _ => laidMetH Tryd.prog Rows.lockNoneRow.laid w) false (World.laidAll Tryd.prog os Rows.lockNoneRow.laid) #[.agg #[.int .i64 0, .int .i64 0, .string ⟨#[]⟩, .int .i64 0]] 8 (World.laidAll_os _ _ _)
      (World.shaped_of_ZipB (by kernel_rfl) (by kernel_rfl)) (by kernel_rfl) (by kernel_rfl) (by kernel_rfl)
      (by rw [MakeChecks.laidMetH_plain _ _ _ (by kernel_rfl)]; exact laidMet_laidAll _ (by kernel_rfl) (by kernel_rfl))) ?_
  intro W base args ds gs before hval0 hW _ _ hL _
  have htog : Tog W := tog_of_laid hL
  have hval : ∀ (j : Nat) t v, Tryd.f7.params[j]? = some t → args[j]? = some v → Value.okWide Tryd.prog W .any base t v := hval0
  have hW' := hW
  obtain ⟨pp, pq, hA0, hV, rfl, hfz, hnd⟩ := hW
  have hA : DataW.TrodAll enc Tryd.prog W 0 (fun _ => true) true Tryd.f7.params.toList args.toList ds pp := hA0
  rw [Tryd.params7] at hA hval
  obtain ⟨v0, vs0, d0, ds0, p0, q0, hargs, rfl, rfl, h0, r0⟩ := trodAll_cons hA
  obtain ⟨rfl, rfl, rfl⟩ := trodAll_nil r0
  obtain rfl : args = #[v0] := by cases args; simp_all
  obtain ⟨rfl, rfl⟩ := trodVars_none hV
  obtain ⟨k0, a0, n0, m0, rfl⟩ := open_step (hval 0 32 v0 rfl rfl) h0
  clear hA0 hval0
  simp only [List.append_nil] at hW'
  refine (walk k0 a0 n0 m0 W  htog).mono fun e W' ⟨he, hg⟩ => ?_
  subst he
  have hb : Below W.heap.size W W' := hg.below (Nat.le_refl _) (by simp)
  have hargs := (trodAll_cons_mk (Below.trod laidOut (by kernel_rfl) (of_decide_eq_true (by kernel_rfl)) h0 hb (fun x hx => hW'.lt x (by simp [hx]))) trodAll_mk0)
  simp only [List.append_nil] at hargs
  exact ⟨_, rfl, _, _, _, [], _, [], hW', trodAll_cons_mk (shut_bool Tryd.underlying4 _) trodAll_mk0, hargs, rfl, hb.frame _, fun h => by cases h⟩

theorem over : Rows.LockNoneSaid :=
  OpenClaim.holds_of_wide 7 Tryd.f7 rfl rfl rfl rfl rfl rfl rfl ⟨rfl, rfl, rfl, rfl, rfl⟩ rfl rfl rfl rfl rfl (by kernel_rfl) Tryd.func7 (by kernel_rfl)
    (of_decide_eq_true (by kernel_rfl)) (by unfold Func.isWrapper; first | (rw [if_pos (by decide +kernel)]; kernel_rfl) | (rw [if_neg (by decide +kernel)]; exact ⟨rfl, rfl⟩))
    (fun os started H enc _ => lifted os started H enc)

theorem proved : Rows.LockNoneCardSaid :=
  Claim7.holds_tied_plain_at .later [] [.data] true Rows.lockNoneCard.stood.harness false over (fun _ h => by cases h) (by kernel_rfl) (fun _ h => by cases h) lockNone_row_tie rfl ⟨rfl, rfl⟩ (by kernel_rfl) rfl
    (fun f fn hf hfn => by
      obtain rfl : f = 7 := Option.some.inj ((show Tryd.prog.funcNamed "hedgerow/hedgerowlaw12.LockNone" = some 7 by kernel_rfl).symm.trans hf) |>.symm
      obtain rfl : fn = Tryd.f7 := (Option.some.inj (Tryd.func7.symm.trans hfn)).symm
      exact ⟨by kernel_rfl, fun j t ht => by
        rw [Tryd.params7] at ht
        have hm : t ∈ [32] := by simpa using Array.mem_of_getElem? ht
        have hall : ([32].all fun u => !Tryd.prog.wantsStandIn u) = true := by kernel_rfl
        exact (show Tryd.prog.wantsStandIn t = false by simpa using List.all_eq_true.1 hall t hm)⟩)
    (by kernel_rfl)
#print axioms proved
end Go.Proofs.YtipfjjcokajjjaaDoor.lockNone
