/-
  What is proved here: the small functions of the statements on keys: large, Values, the document's Make, Begins, wakes.
  Conditions: sizes; the word that the library keeps of its longest index is there.
-/
import Derived.Test.YtfnlgpngnknkmaaDoorKyE
namespace Go.Proofs.YtfnlgpngnknkmaaDoor
open Go.RowKit Go.Proofs.YtfnlgpngnknkmaaDoor.F Go.Proofs.YtfnlgpngnknkmaaDoorW.PrintWords Go.Proofs.YtfnlgpngnknkmaaDoorW.PrintLast
set_option linter.unusedSimpArgs false
set_option linter.unusedVariables false

theorem map_sd_vd (l : List S45) : (l.map vd).map sd = l := by simp [sd_vd, Function.comp_def]
theorem map_vd_sd (l : List ValD) : (l.map sd).map vd = l := by simp [vd_sd, Function.comp_def]

/-- Numbers are int64. -/
def In64 (l : List S45) : Prop := ∀ x ∈ l, -9223372036854775808 ≤ x.f1 ∧ x.f1 ≤ 9223372036854775807
theorem In64.vd {l : List S45} (h : In64 l) : ∀ v ∈ l.map vd, -9223372036854775808 ≤ v.n ∧ v.n ≤ 9223372036854775807 := by
  intro v hv
  obtain ⟨x, hx, rfl⟩ := List.mem_map.1 hv
  exact h x hx

theorem large_any (p : Option Addr) (q : Nat) (l : List S45) (w : World) (h : ValsAt w p l) (hq : l.length ≤ q) (hl : l.length ≤ 9223372036854775807) :
    Calls Tryd.prog 10 #[.slice p l.length q] w fun e w' => e = .returned (.bool (largeB l)) ∧ Only [] w w' := by
  obtain ⟨k, hk⟩ := large_some l
  exact (hedgerowlaw03_large.calls k p q l _ w (h.kd hl) hq hk).mono fun _ _ ⟨h1, h2⟩ => ⟨h1, Only.of_below h2⟩

theorem ref_make_any (p : Option Addr) (q : Nat) (l : List S45) (w : World) (h : ValsAt w p l) (hq : l.length ≤ q) (hl : l.length ≤ 1000) (hn : In64 l) :
    Calls Tryd.prog 14 #[.slice p l.length q] w fun e w' => e = .returned (.tuple #[.string (makeS (l.map vd)).1, .int .i64 (makeS (l.map vd)).2]) ∧ Only [] w w' := by
  obtain ⟨k, hk⟩ := ref_make l hl hn
  exact (hedgerowref03_Make.calls k p q l _ _ w (h.kd (by omega)) hq hk).mono fun _ _ ⟨h1, h2⟩ => ⟨h1, Only.of_below h2⟩

theorem key_make_any (p : Option Addr) (q : Nat) (l : List S45) (w : World) (h : ValsAt w p l) (hl : l.length ≤ 100000) (hn : In64 l) (hlo : Lo w) :
    Calls Tryd.prog 13 #[.slice p l.length q] w fun e w' => e = .returned (.tuple #[.string (makeS (l.map vd)).1, .int .i64 (makeS (l.map vd)).2]) ∧ Only [] w w' := by
  have := make_any p q (l.map vd) w (by rw [map_sd_vd]; exact h) (by simpa using hl) hn.vd hlo
  rw [List.length_map] at this
  exact this

/-- Two lists that are one. -/
theorem values_any (p p' : Option Addr) (q q' : Nat) (l : List S45) (w : World) (h : ValsAt w p l) (h' : ValsAt w p' l) (hq : l.length ≤ q) (hq' : l.length ≤ q') (hl : l.length ≤ 1000000) :
    Calls Tryd.prog 15 #[.slice p l.length q, .slice p' l.length q'] w fun e w' => e = .returned (.bool true) ∧ Only [] w w' := by
  obtain ⟨k, hk⟩ := values_self l hl
  exact (hedgerowkeep_Values.calls k p q l p' q' l _ w (h.kd (by omega)) hq (h'.kd (by omega)) hq' hk).mono fun _ _ ⟨h1, h2⟩ => ⟨h1, Only.of_below h2⟩

theorem one_vals {W : World} {g : Nat} {x : S45} {f : Nat × Nat} (h : W.heap[g]? = some (.cells #[.int .i64 x.f0, .int .i64 x.f1, .string x.f2] 45 f)) : ValsAt W (some ⟨g, 0, none⟩) [x] := by
  intro k y hy
  cases k with
  | zero =>
    simp at hy
    subst hy
    exact ⟨g, 0, rfl, lt_of_block h, cell_of_block h 0 rfl, cell_of_block h 1 rfl, cell_of_block h 2 rfl⟩
  | succ k => simp at hy

theorem make_one : makeS (([⟨2, 1, ⟨#[]⟩⟩] : List S45).map vd) = (⟨#[2, 128, 0, 0, 0, 0, 0, 0, 1]⟩, 0) := by
  kernel_rfl
theorem split_one : splitS ⟨#[2, 128, 0, 0, 0, 0, 0, 0, 1]⟩ = ([⟨2, 1, ⟨#[]⟩⟩], 0) := by
  kernel_rfl
theorem after_one : afterB ⟨#[97, 255]⟩ = ⟨#[98]⟩ := by kernel_rfl

set_option maxRecDepth 100000 in
set_option maxHeartbeats 1000000 in
theorem wakes_any (w : World) (hlo : Lo w) : Calls Tryd.prog 11 #[] w fun e w' => e = .returned (.bool true) ∧ Only [] w w' := by
  have HM := Lib.hid make_one
  have HS := Lib.hid split_one
  have HA := Lib.hid after_one
  have HLO := Lib.hid hlo; clear hlo
  go_enter Tryd.func11, Tryd.ntmps11
  go_wp2_with fail
  refine (key_make_any (some ⟨w.heap.size, 0, none⟩) 1 [⟨2, 1, ⟨#[]⟩⟩] _ (one_vals (newest rfl)) (by decide) (by intro x hx; simp at hx; subst hx; decide) (HLO.out.only (Only.alloc [] w _))).mono ?_
  rintro e w1 ⟨rfl, o1⟩
  have O1 := Lib.hid ((Only.alloc [] w _).trans o1 (Within.nil _ _)); clear o1
  rw [HM.out]
  go_wp2_with fail
  refine (split_any ⟨#[2, 128, 0, 0, 0, 0, 0, 0, 1]⟩ _ (by decide)).mono ?_
  rintro e w2 ⟨p, q, rfl, hs⟩
  have O2 := Lib.hid (O1.out.trans hs.old (Within.nil _ _)); clear hs
  rw [HS.out]
  go_wp2_with fail
  refine (after_any ⟨#[97, 255]⟩ _ (by decide)).mono ?_
  rintro e w3 ⟨rfl, o3⟩
  have O3 := Lib.hid (O2.out.trans o3 (Within.nil _ _)); clear o3
  rw [HA.out]
  go_wp2_with fail
  go_ret
  exact ⟨rfl, O3.out⟩

end Go.Proofs.YtfnlgpngnknkmaaDoor
