/-
  What is proved here: the statement LockPlays: locks that are taken and released by any holders in any order: each answer, who goes on, who has what, who waits for what and for whom; for every input.
  No condition beyond the row's own (the table of the modes is as the program lays it).
-/
import Derived.Test.YtipfjjcokajjjaaDoorRfM
import Derived.Test.YtipfjjcokajjjaaDoorLkZ
import Derived.Test.YtipfjjcokajjjaaDoorTie
import Derived.Test.YtipfjjcokajjjaaDoorCards
import Derived.LaidMore
import Derived.Lay
import Derived.SevenTiedAt
import Derived.Stop.Joined
import Derived.Deep.LoopGhost
import Derived.Deep.DeepCutAuto
import Derived.Deep.CutBlock
import Derived.Deep.RegionHeld3
namespace Go.Proofs.YtipfjjcokajjjaaDoor.lockPlays
open Go.ChangeShapes Go.WideShapes Go.ChangeAt Go.RowKit Go.Proofs.YtipfjjcokajjjaaDoor
set_option linter.unusedVariables false
set_option linter.unusedSimpArgs false

/-- What a step does. -/
def stepT (t : Tab) (x : StepD) : Tab := if x.kind = 0 then (takeM t x.holder x.thing x.mode).2 else if x.kind = 1 then (relM t x.holder).2 else t
theorem stepT_good {t : Tab} (hg : Good t) (x : StepD) : Good (stepT t x) := by
  unfold stepT
  split
  · exact takeM_good hg _ _ _
  · split
    · exact relM_good hg _
    · exact hg

/-- The step by itself, and both tables. -/
def both (X : Nat) (x : StepD) (b q : Nat) (t : Tab) : List Res :=
  [blkRes X (.cells #[.int .i64 x.kind, .int .i64 x.holder, .string x.thing, .int .i64 x.mode] 32 (0, 0)), tabRes b t, refRes q t]
theorem both_x {w W : World} {X b q : Nat} {x : StepD} {t : Tab} (hs : Sep w W (both X x b q t)) : W.cell? ⟨X, 0, none⟩ = some (.int .i64 x.kind) ∧ W.cell? ⟨X, 1, none⟩ = some (.int .i64 x.holder) ∧ W.cell? ⟨X, 2, none⟩ = some (.string x.thing) ∧ W.cell? ⟨X, 3, none⟩ = some (.int .i64 x.mode) :=
  ⟨cell_of_block hs.blk 0 rfl, cell_of_block hs.blk 1 rfl, cell_of_block hs.blk 2 rfl, cell_of_block hs.blk 3 rfl⟩
theorem x_of {w W : World} {X : Nat} {x : StepD} {L : List Res} (hs : Sep w W L) (hm : blkRes X (.cells #[.int .i64 x.kind, .int .i64 x.holder, .string x.thing, .int .i64 x.mode] 32 (0, 0)) ∈ L) : W.cell? ⟨X, 1, none⟩ = some (.int .i64 x.holder) ∧ W.cell? ⟨X, 2, none⟩ = some (.string x.thing) ∧ W.cell? ⟨X, 3, none⟩ = some (.int .i64 x.mode) :=
  ⟨cell_of_block (hs.blkOf hm) 1 rfl, cell_of_block (hs.blkOf hm) 2 rfl, cell_of_block (hs.blkOf hm) 3 rfl⟩

theorem rising_len {xs : List Int} (hr : Rising xs) (hm : ∀ o ∈ xs, 1 ≤ o ∧ o ≤ 1000) : xs.length ≤ 1001 := by
  have h2 := nodup_len 1001 (xs.map Int.toNat) (by
    refine List.pairwise_map.2 (List.Pairwise.imp_of_mem ?_ hr)
    intro a b ha hb hlt e
    have := hm a ha
    have := hm b hb
    omega) (fun a ha => by
      obtain ⟨x, hx, rfl⟩ := List.mem_map.1 ha
      have := hm x hx
      omega)
  rwa [List.length_map] at h2
theorem relM_len {t : Tab} (hg : Good t) (h : Int) : (relM t h).1.length ≤ 300000 := by
  have h1 := relHas_len hg h t.length (Nat.le_refl _)
  have h2 : relHas t h t.length = (relM t h).1 := by unfold relHas relM; rw [List.take_length]
  rw [h2] at h1
  have := hg.len
  omega

theorem texts_at {n : Nat} {xs : List ByteArray} (hn : n = xs.length) (W : World) {pa pb : Option Addr} (qa qb : Nat) (hl : xs.length ≤ 1000000) (ha : CellsAt W pa (strCells xs)) (hb : CellsAt W pb (strCells xs)) :
    Calls Tryd.prog 24 #[.slice pa n qa, .slice pb n qb] W fun r W' => r = .returned (.bool true) ∧ Only [] W W' := by
  subst hn
  exact texts_same W qa qb hl ha hb

set_option maxRecDepth 100000 in
set_option maxHeartbeats 8000000 in
theorem walk (p : Option Addr) (l : List StepD) (q : Nat) (w : World) (hl : ((l.length : Nat) : Int) ≤ 9223372036854775807) (hst : StepsAt w p l) (htog : Tog w) :
    Calls Tryd.prog 3 #[.slice p l.length q] w fun e w' => e = .returned (.bool true) ∧ Only [] w w' := by
  have HT := Lib.hid htog
  have HN := Lib.hid (Sep.nil w)
  have HST := Lib.hid hst
  clear htog hst
  go_enter Tryd.func3, Tryd.ntmps3
  go_wp2_with (go_at_call 10; refine (new_any HN.out).mono ?_; rintro e w1 ⟨b, rfl, hs1⟩; have HS1 := Lib.hid hs1; clear hs1)
  have HS2 : Hid (Sep w (w1.alloc (.cells #[.slice none 0 0] 28)) [refRes w1.heap.size [], tabRes b []]) := ref_none HS1.out
  obtain ⟨V1, hV1⟩ : ∃ V : World, V = w1.alloc (.cells #[.slice none 0 0] 28) := ⟨_, rfl⟩
  obtain ⟨rq, hrq⟩ : ∃ X, X = w1.heap.size := ⟨_, rfl⟩
  rw [← hV1, ← hrq] at HS2
  rw [← hV1, ← hrq]
  have HO1 : Hid (Only [] w V1) := HS2.out.old
  clear HS1 hV1 hrq
  refine (fair_any p l q V1 hl (HST.out.only HO1.out)).mono ?_
  rintro e w2 ⟨rfl, rfl⟩
  cases hfair : fairB l with
  | false =>
    go_wp2_with fail
    refine (wakes_any V1 (HT.out.only HO1.out)).mono ?_
    rintro e w3 ⟨rfl, ho3⟩
    have HO3 := Lib.hid (HO1.out.trans ho3 (Within.nil _ _))
    clear ho3
    go_wp2_with fail
    go_ret
    exact ⟨rfl, HO3.out⟩
  | true =>
    have hfl := (fair_true hfair).1
    clear hfair
    go_wp2_with fail
    go_loopg [5] l.length (fun gg s5 wr => ∃ (i : Nat) (t : Tab), i ≤ l.length ∧ l.length - i ≤ gg ∧ s5 = .int .i64 i ∧ Aside (Good t) ∧ Aside (Sep w wr [refRes rq t, tabRes b t]))
    case atStart => exact ⟨0, [], Nat.zero_le _, by omega, rfl, good_nil, HS2.out⟩
    case round =>
      obtain ⟨i, t, hi, hgg, rfl, HG, HS⟩ := hrel
      clear HS2
      have HG : Hid (Good t) := HG
      have HS : Hid (Sep w wr [refRes rq t, tabRes b t]) := HS
      obtain ⟨V2, hV2⟩ : ∃ V : World, V = wr := ⟨_, rfl⟩
      rw [← hV2] at HS ⊢
      clear hV2
      have HO2 : Hid (Only [] w V2) := HS.out.old
      by_cases hlt : i < l.length
      · obtain ⟨x, hx⟩ : ∃ x, l[i]? = some x := ⟨_, List.getElem?_eq_getElem hlt⟩
        obtain ⟨sb, so, rfl, hb, hh, hm, u0, u1, u2, u3⟩ := HST.out i x hx
        have c0 := (HO2.out.cell (p := ⟨sb, so + i * 4, none⟩) hb (by simp)).trans u0
        have c1 := (HO2.out.cell (p := ⟨sb, so + i * 4 + 1, none⟩) hb (by simp)).trans u1
        have c2 := (HO2.out.cell (p := ⟨sb, so + i * 4 + 2, none⟩) hb (by simp)).trans u2
        have c3 := (HO2.out.cell (p := ⟨sb, so + i * 4 + 3, none⟩) hb (by simp)).trans u3
        have HNX := Lib.hid (stepT_good HG.out x)
        have hltz : (i : Int) < (l.length : Int) := by omega
        clear u0 u1 u2 u3 hx hb hh hm
        have HAL : Hid (Sep w (V2.alloc (.cells #[.int .i64 x.kind, .int .i64 x.holder, .string x.thing, .int .i64 x.mode] 32)) (blkRes V2.heap.size (.cells #[.int .i64 x.kind, .int .i64 x.holder, .string x.thing, .int .i64 x.mode] 32 (0, 0)) :: [tabRes b t, refRes rq t])) := (HS.out.up1).alloc _ _
        go_upto_region 8 with fail
        obtain ⟨V3, hV3⟩ : ∃ V : World, V = V2.alloc (.cells #[.int .i64 x.kind, .int .i64 x.holder, .string x.thing, .int .i64 x.mode] 32) := ⟨_, rfl⟩
        rw [← hV3] at HAL ⊢
        obtain ⟨X, hX⟩ : ∃ X, X = V2.heap.size := ⟨_, rfl⟩
        rw [← hX] at HAL ⊢
        clear hV3 hX HS HO2 c0 c1 c2 c3
        have HS3 : Hid (Sep w V3 (both X x b rq t)) := HAL.out
        clear HAL
        obtain ⟨x0, x1, x2, x3⟩ := both_x HS3.out
        go_upto_block 2 with fail
        go_cut [] (fun wx => Aside (Sep w wx (both X x b rq (stepT t x))))
        case first =>
          by_cases k0 : x.kind = 0
          · have kb : (x.kind == 0) = true := by rw [beq_iff_eq]; exact k0
            have HSTP : Hid ((takeM t x.holder x.thing x.mode).2 = stepT t x) := by show _ = _; unfold stepT; rw [if_pos k0]
            obtain ⟨cd, hcd⟩ : ∃ c, c = (takeM t x.holder x.thing x.mode).1 := ⟨_, rfl⟩
            have HTK : Hid (∀ V, Sep w V (both X x b rq t) → Calls Tryd.prog 13 #[.pointer (some ⟨b, 0, none⟩), .int .i64 x.holder, .string x.thing, .int .i64 x.mode] V fun e W' => e = .returned (.int .i64 cd) ∧ Sep w W' (tabRes b (stepT t x) :: blkRes X (.cells #[.int .i64 x.kind, .int .i64 x.holder, .string x.thing, .int .i64 x.mode] 32 (0, 0)) :: [refRes rq t])) := fun V hV => by rw [hcd, ← HSTP.out]; exact take_any HG.out HT.out _ _ _ (Sep.up1 hV)
            have HRK : Hid (∀ V, Sep w V (tabRes b (stepT t x) :: blkRes X (.cells #[.int .i64 x.kind, .int .i64 x.holder, .string x.thing, .int .i64 x.mode] 32 (0, 0)) :: [refRes rq t]) → Calls Tryd.prog 14 #[.pointer (some ⟨rq, 0, none⟩), .int .i64 x.holder, .string x.thing, .int .i64 x.mode] V fun e W' => e = .returned (.int .i64 cd) ∧ Sep w W' (refRes rq (stepT t x) :: tabRes b (stepT t x) :: [blkRes X (.cells #[.int .i64 x.kind, .int .i64 x.holder, .string x.thing, .int .i64 x.mode] 32 (0, 0))])) := fun V hV => by rw [hcd, ← HSTP.out] at *; exact rtake_any HG.out _ _ _ (Sep.up2 hV)
            clear hcd k0
            go_upto_region 10 with fail
            go_cut [56] (fun s56 wx => s56 = .bool false ∧ Aside (Sep w wx (both X x b rq (stepT t x))))
            case first =>
              go_region_held3 (fun w' => w'.cell? ⟨X, 1, none⟩ = some (.int .i64 x.holder) ∧ w'.cell? ⟨X, 2, none⟩ = some (.string x.thing) ∧ w'.cell? ⟨X, 3, none⟩ = some (.int .i64 x.mode)) (first | go_keep | (refine ⟨?_, ?_, ?_⟩ <;> assumption)) (first | (go_at_call 13; refine (HTK.out _ (by first | exact HS3.out.drew | exact HS3.out)).mono ?_; rintro e w4 ⟨rfl, hs4⟩; have HS4 := Lib.hid hs4; obtain ⟨k1, k2, k3⟩ := x_of (X := X) (x := x) HS4.out (by simp); clear hs4) | (go_at_call 14; refine (HRK.out _ (by first | exact HS4.out.drew | exact HS4.out)).mono ?_; rintro e w5 ⟨rfl, hs5⟩; have HS5 := Lib.hid hs5; obtain ⟨j1, j2, j3⟩ := x_of (X := X) (x := x) HS5.out (by simp); clear hs5))
              all_goals
                go_wp2_with fail
                go_meet
                first
                  | exact ⟨rfl, HS5.out.up2.up2.up1⟩
                  | exact ⟨by simp, HS5.out.up2.up2.up1⟩
            case rest =>
            obtain ⟨rfl, HS5⟩ := hcut
            have HS5 : Hid (Sep w wc (both X x b rq (stepT t x))) := HS5
            go_wp2_with fail
            go_meet
            exact HS5.out
          · have kb : (x.kind == 0) = false := by rw [beq_eq_false_iff_ne]; exact k0
            by_cases k1 : x.kind = 1
            · have kb1 : (x.kind == 1) = true := by rw [beq_iff_eq]; exact k1
              have HSTP : Hid ((relM t x.holder).2 = stepT t x) := by show _ = _; unfold stepT; rw [if_neg k0, if_pos k1]
              obtain ⟨ou, hou⟩ : ∃ c, c = (relM t x.holder).1 := ⟨_, rfl⟩
              have HLO : Hid (ou.length ≤ 1000000) := by show ou.length ≤ 1000000; rw [hou]; have := relM_len HG.out x.holder; omega
              have HTK : Hid (∀ V, Sep w V (both X x b rq t) → Calls Tryd.prog 16 #[.pointer (some ⟨b, 0, none⟩), .int .i64 x.holder] V fun e W' => ∃ p q, e = .returned (.slice p ou.length q) ∧ Sep w W' (rowRes 3 1 (.slice p ou.length q) ou.length (intCells ou) :: tabRes b (stepT t x) :: blkRes X (.cells #[.int .i64 x.kind, .int .i64 x.holder, .string x.thing, .int .i64 x.mode] 32 (0, 0)) :: [refRes rq t])) := fun V hV => by rw [hou, ← HSTP.out]; exact release_any HG.out HT.out _ (Sep.up1 hV)
              have HRK : Hid (∀ V (R : Res), Sep w V (R :: tabRes b (stepT t x) :: blkRes X (.cells #[.int .i64 x.kind, .int .i64 x.holder, .string x.thing, .int .i64 x.mode] 32 (0, 0)) :: [refRes rq t]) → Calls Tryd.prog 17 #[.pointer (some ⟨rq, 0, none⟩), .int .i64 x.holder] V fun e W' => ∃ p q, e = .returned (.slice p ou.length q) ∧ Sep w W' (rowRes 3 1 (.slice p ou.length q) ou.length (intCells ou) :: refRes rq (stepT t x) :: R :: tabRes b (stepT t x) :: [blkRes X (.cells #[.int .i64 x.kind, .int .i64 x.holder, .string x.thing, .int .i64 x.mode] 32 (0, 0))])) := fun V R hV => by rw [hou, ← HSTP.out] at *; exact rRelease_any HG.out _ (Sep.up3 hV)
              clear hou k0 k1
              go_upto_region 13 with fail
              go_cut [68] (fun s68 wx => s68 = .bool false ∧ Aside (Sep w wx (both X x b rq (stepT t x))))
              case first =>
                go_region_held3 (fun w' => w'.cell? ⟨X, 1, none⟩ = some (.int .i64 x.holder)) (first | go_keep | assumption) (first
                  | (go_at_call 16; refine (HTK.out _ (by first | exact HS3.out.drew | exact HS3.out)).mono ?_; rintro e w4 ⟨p4, q4, rfl, hs4⟩; have HS4 := Lib.hid hs4; have k1 := (x_of (X := X) (x := x) HS4.out (by simp)).1; clear hs4)
                  | (go_at_call 17; refine (HRK.out _ _ (by first | exact HS4.out.drew | exact HS4.out)).mono ?_; rintro e w5 ⟨p5, q5, rfl, hs5⟩; have HS5 := Lib.hid hs5; have j1 := (x_of (X := X) (x := x) HS5.out (by simp)).1; clear hs5)
                  | (go_at_call 15; refine (ints_same _ q4 q5 HLO.out (CellsAt.only HS5.out.up2.cellsAt (by first | exact Only.drew _ _ | exact Only.refl _ _)) (CellsAt.only HS5.out.cellsAt (by first | exact Only.drew _ _ | exact Only.refl _ _))).mono ?_; rintro e w6 ⟨rfl, ho6⟩; have HS6 : Hid (Sep w w6 _) := (by first | exact Sep.only HS5.out.drew ho6 | exact Sep.only HS5.out ho6); have i1 := (x_of (X := X) (x := x) HS6.out (by simp)).1; clear ho6))
                all_goals
                  go_wp2_with fail
                  go_meet
                  exact ⟨rfl, HS6.out.tail.up1.tail.up2.up2.up1⟩
              case rest =>
              obtain ⟨rfl, HS5⟩ := hcut
              have HS5 : Hid (Sep w wc (both X x b rq (stepT t x))) := HS5
              go_wp2_with fail
              go_meet
              exact HS5.out
            · have kb1 : (x.kind == 1) = false := by rw [beq_eq_false_iff_ne]; exact k1
              have e : stepT t x = t := by unfold stepT; rw [if_neg k0, if_neg k1]
              have HE := Lib.hid e
              clear e
              go_wp2_with fail
              go_meet
              have h1 := HS3.out
              rw [← HE.out] at h1
              exact h1
        case rest =>
        have HS4 : Hid (Sep w wc (both X x b rq (stepT t x))) := hcut
        obtain ⟨t', ht'⟩ : ∃ t', t' = stepT t x := ⟨_, rfl⟩
        rw [← ht'] at HS4 HNX
        clear hcut ht' HS3 x0 x1 x2 x3
        obtain ⟨V4, hV4⟩ : ∃ V : World, V = wc := ⟨_, rfl⟩
        rw [← hV4] at HS4 ⊢
        clear hV4
        obtain ⟨x0, x1, x2, x3⟩ := both_x HS4.out
        have HW1 := Lib.hid (waits_any HNX.out x.holder HS4.out.up1)
        have HW2 := Lib.hid (rWaits_any HNX.out x.holder HS4.out.up2)
        obtain ⟨sv, hsv⟩ : ∃ s, s = (waitsM t' x.holder).getD ⟨#[]⟩ := ⟨_, rfl⟩
        obtain ⟨ok, hok⟩ : ∃ s, s = (waitsM t' x.holder).isSome := ⟨_, rfl⟩
        rw [← hsv, ← hok] at HW1 HW2
        clear hsv hok
        go_upto_region 17 with (first | (go_at_call 18; refine HW1.out.mono ?_; rintro e w2 ⟨rfl, rfl⟩) | (go_at_call 19; refine HW2.out.mono ?_; rintro e w2 ⟨rfl, rfl⟩))
        clear HW1 HW2
        obtain ⟨md, hmd⟩ : ∃ m, m = modeM t' x.holder x.thing := ⟨_, rfl⟩
        have HM1 : Hid (∀ V, Sep w V (both X x b rq t') → Calls Tryd.prog 20 #[.pointer (some ⟨b, 0, none⟩), .int .i64 x.holder, .string x.thing] V fun e W' => e = .returned (.int .i64 md) ∧ V = W') := fun V hV => by rw [hmd]; exact mode_any HNX.out _ _ hV.up1
        have HM2 : Hid (∀ V, Sep w V (both X x b rq t') → Calls Tryd.prog 21 #[.pointer (some ⟨rq, 0, none⟩), .int .i64 x.holder, .string x.thing] V fun e W' => e = .returned (.int .i64 md) ∧ V = W') := fun V hV => by rw [hmd]; exact rMode_any HNX.out _ _ hV.up2
        have HF1 : Hid (∀ V, Sep w V (both X x b rq t') → _) := fun V hV => for_any HNX.out HT.out x.holder (Sep.up1 hV)
        have HF2 : Hid (∀ V (R : Res), Sep w V (R :: tabRes b t' :: blkRes X (.cells #[.int .i64 x.kind, .int .i64 x.holder, .string x.thing, .int .i64 x.mode] 32 (0, 0)) :: [refRes rq t']) → _) := fun V R hV => rFor_any HNX.out x.holder (Sep.up3 hV)
        have HN1 : Hid (∀ V, Sep w V (both X x b rq t') → _) := fun V hV => things_any HNX.out (Sep.up1 hV)
        have HN2 : Hid (∀ V (R : Res), Sep w V (R :: tabRes b t' :: blkRes X (.cells #[.int .i64 x.kind, .int .i64 x.holder, .string x.thing, .int .i64 x.mode] 32 (0, 0)) :: [refRes rq t']) → _) := fun V R hV => rThings_any HNX.out.len (Sep.up3 hV)
        have HTL : Hid ((t'.map (·.name)).length ≤ 1000000) := by show (t'.map (·.name)).length ≤ 1000000; rw [List.length_map]; have := HNX.out.len; omega
        have HTE : Hid (t'.length = (t'.map (·.name)).length) := (List.length_map _).symm
        clear hmd
        go_cut [125] (fun s125 wx => s125 = .bool false ∧ Aside (Sep w wx (both X x b rq t')))
        case first =>
          go_region_held3 (fun w' => w'.cell? ⟨X, 1, none⟩ = some (.int .i64 x.holder) ∧ w'.cell? ⟨X, 2, none⟩ = some (.string x.thing)) (first | go_keep | (refine ⟨?_, ?_⟩ <;> assumption)) (first
            | (go_at_call 20; refine (HM1.out _ (by first | exact HS4.out.drew | exact HS4.out)).mono ?_; rintro e w5 ⟨rfl, rfl⟩)
            | (go_at_call 21; refine (HM2.out _ (by first | exact HS4.out.drew | exact HS4.out)).mono ?_; rintro e w5 ⟨rfl, rfl⟩)
            | (go_at_call 22; refine (HF1.out _ (by first | exact HS4.out.drew | exact HS4.out)).mono ?_; rintro e w5 ⟨xs, p5, q5, rfl, hr5, hi5, hs5⟩; have HR5 := Lib.hid hr5; have HI5 := Lib.hid hi5; have HS5 := Lib.hid hs5; obtain ⟨k1, k2, _⟩ := x_of (X := X) (x := x) HS5.out (by simp); clear hr5 hi5 hs5)
            | (go_at_call 23; refine (HF2.out _ _ (by first | exact HS5.out.drew | exact HS5.out)).mono ?_; rintro e w6 ⟨ys, p6, q6, rfl, hr6, hi6, hs6⟩; have he6 := Rising.ext HR5.out hr6 (fun o => (HI5.out o).trans (hi6 o).symm); subst he6; have HL6 : Hid (xs.length ≤ 1000000) := Nat.le_trans (rising_len HR5.out (fun o ho => isFor_range HNX.out ((HI5.out o).1 ho))) (by decide); have HS6 := Lib.hid hs6; obtain ⟨i1, i2, _⟩ := x_of (X := X) (x := x) HS6.out (by simp); clear hr6 hi6 hs6)
            | (go_at_call 15; refine (ints_same _ q5 q6 HL6.out (CellsAt.only HS6.out.up2.cellsAt (by first | exact Only.drew _ _ | exact Only.refl _ _)) (CellsAt.only HS6.out.cellsAt (by first | exact Only.drew _ _ | exact Only.refl _ _))).mono ?_; rintro e w7 ⟨rfl, ho7⟩; have HS7 : Hid (Sep w w7 (both X x b rq t')) := (by have h7 := (by first | exact Sep.only HS6.out.drew ho7 | exact Sep.only HS6.out ho7); exact h7.tail.up1.tail.up2.up2.up1); obtain ⟨_, g1, g2, _⟩ := both_x HS7.out; clear ho7)
            | (go_at_call 25; refine (HN1.out _ (by first | exact HS7.out.drew | exact HS7.out)).mono ?_; rintro e w8 ⟨p8, q8, rfl, hs8⟩; have HS8 := Lib.hid hs8; obtain ⟨f1, f2, _⟩ := x_of (X := X) (x := x) HS8.out (by simp); clear hs8)
            | (go_at_call 26; refine (HN2.out _ _ (by first | exact HS8.out.drew | exact HS8.out)).mono ?_; rintro e w9 ⟨p9, q9, rfl, hs9⟩; have HS9 := Lib.hid hs9; obtain ⟨e1, e2, _⟩ := x_of (X := X) (x := x) HS9.out (by simp); clear hs9)
            | (go_at_call 24; refine (texts_at HTE.out _ q8 q9 HTL.out (CellsAt.only HS9.out.up2.cellsAt (by first | exact Only.drew _ _ | exact Only.refl _ _)) (CellsAt.only HS9.out.cellsAt (by first | exact Only.drew _ _ | exact Only.refl _ _))).mono ?_; rintro e wa ⟨rfl, hoa⟩; have HSA : Hid (Sep w wa (both X x b rq t')) := (by have h7 := (by first | exact Sep.only HS9.out.drew hoa | exact Sep.only HS9.out hoa); exact h7.tail.up1.tail.up2.up2.up1); obtain ⟨_, d1, d2, _⟩ := both_x HSA.out; clear hoa))
          all_goals
            go_wp2_with fail
            go_meet
            first | exact ⟨rfl, HSA.out⟩ | exact ⟨by simp, HSA.out⟩
        case rest =>
        obtain ⟨rfl, HS5⟩ := hcut
        have HS5 : Hid (Sep w wc (both X x b rq t')) := HS5
        go_wp2_with fail
        go_roundg (l.length - (i + 1))
        case measure => omega
        case rel => exact ⟨i + 1, t', by omega, by omega, by go_num, HNX.out, HS5.out.tail.up1⟩
      · have hltz : ¬ (i : Int) < (l.length : Int) := by omega
        go_wp2_with fail
        refine (wakes_any V2 (HT.out.only HO2.out)).mono ?_
        rintro e w3 ⟨rfl, ho3⟩
        have HO3 := Lib.hid (HO2.out.trans ho3 (Within.nil _ _))
        clear ho3
        go_wp2_with fail
        go_ret
        exact ⟨rfl, HO3.out⟩

set_option maxRecDepth 100000 in
theorem lifted (os : Os) (started : os.Started) (H : Type) (enc : TypeId × Value → H) :
    ReturnsInHanded {} Tryd.checked os 3 .any (fun w args => (Rows.lockPlaysSpec.pre enc Tryd.prog Tryd.f3 Rows.lockPlaysRow.domain false w args ∧ laidMetH Tryd.prog Rows.lockPlaysRow.laid w) ∧ sizedMet enc Tryd.prog Tryd.f3 (OpenSpec.ofChange Rows.lockPlaysSpec) false w args)
      (Rows.lockPlaysSpec.post enc Tryd.prog Tryd.f3 false true false false) := by
  refine returnsInHanded_of_change_and (C := Tryd.checked) (X := fun w _ => laidMetH Tryd.prog Rows.lockPlaysRow.laid w) (fun _ _ _ hh h => h.of_heap hh) own started (by kernel_rfl) Tryd.func3
    (ChangeSpec.witness_shaped (enc := enc) (C := Tryd.checked) (os := os) (X := fun w _ => laidMetH Tryd.prog Rows.lockPlaysRow.laid w) false (World.laidAll Tryd.prog os Rows.lockPlaysRow.laid) #[.slice none 0 0] 8 (World.laidAll_os _ _ _)
      (World.shaped_of_ZipB (by kernel_rfl) (by kernel_rfl)) (by kernel_rfl) (by kernel_rfl) (by kernel_rfl)
      (by rw [MakeChecks.laidMetH_plain _ _ _ (by kernel_rfl)]; exact laidMet_laidAll _ (by kernel_rfl) (by kernel_rfl))) ?_
  intro W base args ds gs before hval0 hW _ _ hL _
  have htog : Tog W := tog_of_laid hL
  have hval : ∀ (j : Nat) t v, Tryd.f3.params[j]? = some t → args[j]? = some v → Value.okWide Tryd.prog W .any base t v := hval0
  have hW' := hW
  obtain ⟨pp, pq, hA0, hV, rfl, hfz, hnd⟩ := hW
  have hA : DataW.TrodAll enc Tryd.prog W 0 (fun _ => true) true Tryd.f3.params.toList args.toList ds pp := hA0
  rw [Tryd.params3] at hA hval
  obtain ⟨v0, vs0, d0, ds0, p0, q0, hargs, rfl, rfl, h0, r0⟩ := trodAll_cons hA
  obtain ⟨rfl, rfl, rfl⟩ := trodAll_nil r0
  obtain rfl : args = #[v0] := by cases args; simp_all
  obtain ⟨rfl, rfl⟩ := trodVars_none hV
  obtain ⟨sp0, sl0, sq0, rfl, hl0, hst0⟩ := open_steps (W := W) (v := v0) (by
    obtain ⟨a, len, cap, rfl⟩ := okWide_slice Tryd.underlying22 (hval 0 22 v0 rfl rfl)
    exact ⟨a, len, cap, rfl⟩) h0
  clear hA0 hval0
  simp only [List.append_nil] at hW'
  refine (walk sp0 sl0 sq0 W hl0 hst0 htog).mono fun e W' ⟨he, hg⟩ => ?_
  subst he
  have hb : Below W.heap.size W W' := hg.below (Nat.le_refl _) (by simp)
  have hargs := (trodAll_cons_mk (Below.trod laidOut (by kernel_rfl) (of_decide_eq_true (by kernel_rfl)) h0 hb (fun x hx => hW'.lt x (by simp [hx]))) trodAll_mk0)
  simp only [List.append_nil] at hargs
  exact ⟨_, rfl, _, _, _, [], _, [], hW', trodAll_cons_mk (shut_bool Tryd.underlying4 _) trodAll_mk0, hargs, rfl, hb.frame _, fun h => by cases h⟩

theorem over : Rows.LockPlaysSaid :=
  OpenClaim.holds_of_wide 3 Tryd.f3 rfl rfl rfl rfl rfl rfl rfl ⟨rfl, rfl, rfl, rfl, rfl⟩ rfl rfl rfl rfl rfl (by kernel_rfl) Tryd.func3 (by kernel_rfl)
    (of_decide_eq_true (by kernel_rfl)) (by unfold Func.isWrapper; first | (rw [if_pos (by decide +kernel)]; kernel_rfl) | (rw [if_neg (by decide +kernel)]; exact ⟨rfl, rfl⟩))
    (fun os started H enc _ => lifted os started H enc)

theorem proved : Rows.LockPlaysCardSaid :=
  Claim7.holds_tied_plain_at .later [] [.data] true Rows.lockPlaysCard.stood.harness false over (fun _ h => by cases h) (by kernel_rfl) (fun _ h => by cases h) lockPlays_row_tie rfl ⟨rfl, rfl⟩ (by kernel_rfl) rfl
    (fun f fn hf hfn => by
      obtain rfl : f = 3 := Option.some.inj ((show Tryd.prog.funcNamed "hedgerow/hedgerowlaw12.LockPlays" = some 3 by kernel_rfl).symm.trans hf) |>.symm
      obtain rfl : fn = Tryd.f3 := (Option.some.inj (Tryd.func3.symm.trans hfn)).symm
      exact ⟨by kernel_rfl, fun j t ht => by
        rw [Tryd.params3] at ht
        have hm : t ∈ [22] := by simpa using Array.mem_of_getElem? ht
        have hall : ([22].all fun u => !Tryd.prog.wantsStandIn u) = true := by kernel_rfl
        exact (show Tryd.prog.wantsStandIn t = false by simpa using List.all_eq_true.1 hall t hm)⟩)
    (by kernel_rfl)
#print axioms proved
end Go.Proofs.YtipfjjcokajjjaaDoor.lockPlays
