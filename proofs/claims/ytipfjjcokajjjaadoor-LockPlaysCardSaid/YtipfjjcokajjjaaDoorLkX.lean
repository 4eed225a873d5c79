/-
  What is proved here: the table of locks as the statements use it; 'wakes'; what is laid reads as 'Tog'.
  No condition: each lemma names its own.
-/
import Derived.Test.YtipfjjcokajjjaaDoorLkV
import Derived.Test.YtipfjjcokajjjaaDoorLkO
import Derived.Test.YtipfjjcokajjjaaDoorLkW
import Derived.Test.YtipfjjcokajjjaaDoorCards
import Derived.ProofKit
import Derived.OpenShut
import Derived.LaidMore
import Derived.Handed
set_option linter.unusedVariables false
set_option linter.unusedSimpArgs false
namespace Go.Proofs.YtipfjjcokajjjaaDoor
open Go.RowKit Go.ChangeShapes Go.WideShapes

/-- Take. -/
theorem take_any {w W : World} {l : List Res} {b : Nat} {t : Tab} (hg : Good t) (htog : Tog w) (h : Int) (n : ByteArray) (want : Int) (hs : Sep w W (tabRes b t :: l)) :
    Calls Tryd.prog 13 #[.pointer (some ⟨b, 0, none⟩), .int .i64 h, .string n, .int .i64 want] W fun e W' => e = .returned (.int .i64 (takeM t h n want).1) ∧ Sep w W' (tabRes b (takeM t h n want).2 :: l) := by
  by_cases ha : h < 1 ∨ 1000 < h ∨ 64 < n.size ∨ want < 1 ∨ 2 < want
  · have hv : takeM t h n want = (1, t) := by unfold takeM; rw [if_pos ha]
    rw [hv]
    refine (take_bad b h n want W ha).mono ?_
    rintro e W' ⟨rfl, rfl⟩
    exact ⟨rfl, hs⟩
  · by_cases hst : (waitsM t h).isSome = true ∨ want ≤ modeM t h n ∨ (getT t n = none ∧ t.length = 256)
    · exact take_stays hg h n want ha hs hst
    · have h1 : waitsM t h = none := by
        cases e : waitsM t h with
        | none => rfl
        | some x => exact absurd (.inl (by rw [e]; rfl)) hst
      exact take_goes hg htog h n want ha hs h1 (by have : ¬ want ≤ modeM t h n := fun q => hst (.inr (.inl q)); omega) (fun q => hst (.inr (.inr q)))

theorem tog_of_laid {W : World} (h : laidMetH Tryd.prog [("hedgerow/lock.together", Rows.laid_hedgerow_lock_together)] W) : Tog W := by
  rw [MakeChecks.laidMetH_plain _ _ _ (by kernel_rfl)] at h
  obtain ⟨ps, ⟨g, t, cs, fuel, p, q, hg, ht, hv, hd, _, _⟩, _, _⟩ := h
  obtain rfl := Option.some.inj ((show Tryd.prog.globalNamed "hedgerow/lock.together" = some 0 by kernel_rfl).symm.trans hg)
  obtain rfl := Option.some.inj ((show (Tryd.prog.globals[0]?).map (·.type) = some 81 by kernel_rfl).symm.trans ht)
  obtain ⟨xs, m, _, ex, _, hl, hel⟩ := DataW.trod_array Tryd.underlying81 hd
  have c80 : Tryd.prog.cellsOf 80 = 3 := by kernel_rfl
  have c4 : Tryd.prog.cellsOf 4 = 1 := by kernel_rfl
  intro a b ha hb
  have hE := hel a ha
  rw [c80, List.getElem?_eq_getElem (by omega)] at hE
  obtain ⟨ys, m2, _, ey, _, hl2, hel2⟩ := DataW.trod_array Tryd.underlying80 hE
  have hE2 := hel2 b hb
  rw [c4, Nat.mul_one, List.getElem?_eq_getElem (by omega)] at hE2
  obtain ⟨z, e1, e2⟩ := DataW.trod_bool Tryd.underlying4 hE2
  have e3 : xs.map (·.1) = [.agg [.lit (.bool true), .lit (.bool true), .lit (.bool true)], .agg [.lit (.bool true), .lit (.bool true), .lit (.bool false)], .agg [.lit (.bool true), .lit (.bool false), .lit (.bool false)]] := (DataW.agg.inj (Prod.mk.inj ex).1).symm
  have e4 : (xs.map (·.1))[a]? = some (.agg (ys.map (·.1))) := by
    rw [List.getElem?_map, List.getElem?_eq_getElem (by omega), ey]; rfl
  have e5 : (ys.map (·.1))[b]? = some (.lit (.bool z)) := by
    rw [List.getElem?_map, List.getElem?_eq_getElem (by omega), e2]; rfl
  have hz : z = decide (a + b ≤ 2) := by
    rw [e3] at e4
    obtain rfl | rfl | rfl : a = 0 ∨ a = 1 ∨ a = 2 := by omega
    all_goals
      simp only [List.getElem?_cons_zero, List.getElem?_cons_succ, Option.some.injEq, DataW.agg.injEq] at e4
      rw [← e4] at e5
      obtain rfl | rfl | rfl : b = 0 ∨ b = 1 ∨ b = 2 := by omega
      all_goals
        simp only [List.getElem?_cons_zero, List.getElem?_cons_succ, Option.some.injEq, DataW.lit.injEq, Lit.bool.injEq] at e5
        rw [← e5]; rfl
  rw [World.var?_cell hg hv (a * 3 + b), ← hz]
  have h0 : ((((cs.toList.drop (a * 3)).take 3).drop b).take 1)[0]? = some (.bool z) := by rw [e1]; rfl
  have h1 : cs.toList[a * 3 + b]? = some (.bool z) := by
    rw [List.getElem?_take, if_pos (by omega), List.getElem?_drop, List.getElem?_take, if_pos (by omega), List.getElem?_drop] at h0
    simpa using h0
  simpa using h1

def nmA : ByteArray := ⟨#[97]⟩

set_option maxRecDepth 100000 in
set_option maxHeartbeats 2000000 in
theorem wakes_any (w : World) (htog : Tog w) : Calls Tryd.prog 12 #[] w fun e w' => e = .returned (.bool true) ∧ Only [] w w' := by
  obtain ⟨t1, ht1⟩ : ∃ t1 : Tab, t1 = [⟨nmA, [(1, 1)], []⟩] := ⟨_, rfl⟩
  obtain ⟨t2, ht2⟩ : ∃ t2 : Tab, t2 = [⟨nmA, [(1, 1)], [(2, 2)]⟩] := ⟨_, rfl⟩
  obtain ⟨t3, ht3⟩ : ∃ t3 : Tab, t3 = [⟨nmA, [(2, 2)], []⟩] := ⟨_, rfl⟩
  have h1 : takeM [] 1 nmA 1 = (0, t1) := by rw [ht1]; rfl
  have h2 : takeM t1 2 nmA 2 = (120, t2) := by rw [ht1, ht2]; rfl
  have h3 : relM t2 1 = ([2], t3) := by rw [ht2, ht3]; rfl
  have h4 : modeM t3 2 nmA = 2 := by rw [ht3]; rfl
  have g1 : Good t1 := by have := takeM_good good_nil 1 nmA 1; rwa [h1] at this
  have g2 : Good t2 := by have := takeM_good g1 2 nmA 2; rwa [h2] at this
  have g3 : Good t3 := by have := relM_good g2 1; rwa [h3] at this
  have hfor : ∀ xs, Rising xs → (∀ o, o ∈ xs ↔ IsFor t2 2 o) → xs = [1] := by
    intro xs hx hm
    refine Rising.ext hx (by simp [Rising]) fun o => ?_
    rw [hm o, isFor_iff g2 (x := ⟨nmA, [(1, 1)], [(2, 2)]⟩) (by rw [ht2]; simp) (k := 0) (m := 2) rfl]
    constructor
    · rintro (⟨y, hy, _⟩ | ⟨y, hy, e, _⟩)
      · simp at hy
      · simp at hy; subst hy; simp [← e]
    · intro ho
      simp at ho
      subst ho
      exact .inr ⟨(1, 1), by simp, rfl, rfl⟩
  have c1 : ∀ {W : World} {b : Nat}, Sep w W [tabRes b []] → Calls Tryd.prog 13 #[.pointer (some ⟨b, 0, none⟩), .int .i64 1, .string ⟨#[97]⟩, .int .i64 1] W fun e W' => e = .returned (.int .i64 0) ∧ Sep w W' [tabRes b t1] := fun hs => by have := take_any good_nil htog 1 nmA 1 hs; rwa [h1] at this
  have c2 : ∀ {W : World} {b : Nat}, Sep w W [tabRes b t1] → Calls Tryd.prog 13 #[.pointer (some ⟨b, 0, none⟩), .int .i64 2, .string ⟨#[97]⟩, .int .i64 2] W fun e W' => e = .returned (.int .i64 120) ∧ Sep w W' [tabRes b t2] := fun hs => by have := take_any g1 htog 2 nmA 2 hs; rwa [h2] at this
  have c4 : ∀ {W : World} {b : Nat} {R : Res}, Sep w W [tabRes b t2, R] → Calls Tryd.prog 16 #[.pointer (some ⟨b, 0, none⟩), .int .i64 1] W fun e W' => ∃ p q, e = .returned (.slice p 1 q) ∧ Sep w W' [rowRes 3 1 (.slice p 1 q) 1 [.int .i64 2], tabRes b t3, R] := fun hs => by have := release_any g2 htog 1 hs; rwa [h3] at this
  have c5 : ∀ {W : World} {b : Nat} {R S : Res}, Sep w W [tabRes b t3, R, S] → Calls Tryd.prog 20 #[.pointer (some ⟨b, 0, none⟩), .int .i64 2, .string ⟨#[97]⟩] W fun e W' => e = .returned (.int .i64 2) ∧ W = W' := fun hs => by have := mode_any g3 2 nmA hs; rwa [h4] at this
  have c3 : ∀ {W : World} {b : Nat}, Sep w W [tabRes b t2] → Calls Tryd.prog 22 #[.pointer (some ⟨b, 0, none⟩), .int .i64 2] W fun e W' => ∃ p q, e = .returned (.slice p 1 q) ∧ Sep w W' [rowRes 3 1 (.slice p 1 q) 1 [.int .i64 1], tabRes b t2] := fun hs => (for_any g2 htog 2 hs).mono (by
    rintro e W' ⟨xs, p, q, rfl, hr, hm, h⟩
    obtain rfl := hfor xs hr hm
    exact ⟨p, q, rfl, h⟩)
  have C1 : Hid (∀ {W : World} {b : Nat}, Sep w W [tabRes b []] → _) := Lib.hid c1
  have C2 : Hid (∀ {W : World} {b : Nat}, Sep w W [tabRes b t1] → _) := Lib.hid c2
  have C3 : Hid (∀ {W : World} {b : Nat}, Sep w W [tabRes b t2] → _) := Lib.hid c3
  have C4 : Hid (∀ {W : World} {b : Nat} {R : Res}, Sep w W [tabRes b t2, R] → _) := Lib.hid c4
  have C5 : Hid (∀ {W : World} {b : Nat} {R S : Res}, Sep w W [tabRes b t3, R, S] → _) := Lib.hid c5
  have HN := Lib.hid (Sep.nil w)
  clear c1 c2 c3 c4 c5 hfor h1 h2 h3 h4 g1 g2 g3 ht1 ht2 ht3 htog
  go_enter Tryd.func12, Tryd.ntmps12
  go_wp2_with (go_at_call 10; refine (new_any HN.out).mono ?_; rintro e w1 ⟨b, rfl, hs1⟩; have HS1 := Lib.hid hs1; clear hs1)
  refine (C1.out HS1.out).mono ?_
  rintro e w2 ⟨rfl, hs2⟩
  have HS2 := Lib.hid hs2; clear hs2
  go_wp2_with fail
  refine (C2.out HS2.out).mono ?_
  rintro e w3 ⟨rfl, hs3⟩
  have HS3 := Lib.hid hs3; clear hs3
  go_wp2_with fail
  refine (C3.out HS3.out).mono ?_
  rintro e w4 ⟨p4, q4, rfl, hs4⟩
  have HS4 := Lib.hid hs4; clear hs4
  go_wp2_with fail
  refine (C4.out HS4.out.up1).mono ?_
  rintro e w5 ⟨p5, q5, rfl, hs5⟩
  obtain ⟨g4, rfl⟩ := (hs5.up2).rowAt (by simp)
  obtain ⟨g5, rfl⟩ := hs5.rowAt (by simp)
  have r4 := ((hs5.up2).rowCell (j := 0) (u := .int .i64 1) rfl).1
  have r5 := (hs5.rowCell (j := 0) (u := .int .i64 2) rfl).1
  have HS5 := Lib.hid hs5; clear hs5
  go_wp2_with fail
  refine (C5.out HS5.out.up1).mono ?_
  rintro e w6 ⟨rfl, rfl⟩
  have HO := Lib.hid HS5.out.old
  go_wp2_with fail
  go_ret
  exact ⟨rfl, HO.out⟩

end Go.Proofs.YtipfjjcokajjjaaDoor
