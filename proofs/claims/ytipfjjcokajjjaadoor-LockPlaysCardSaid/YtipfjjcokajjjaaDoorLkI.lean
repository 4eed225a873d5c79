/-
  What is proved here: slices.IndexFunc at []lock.waiter, whatever the predicate.
  No condition: each lemma names its own.
-/
import Derived.Test.YtipfjjcokajjjaaDoorLkF
set_option linter.unusedVariables false
set_option linter.unusedSimpArgs false
namespace Go.Proofs.YtipfjjcokajjjaaDoor
open Go.RowKit

theorem wCells_len (q : HM) : (wCells q).length = q.length * 2 := by
  induction q with
  | nil => rfl
  | cons x q ih => unfold wCells at ih ⊢; rw [List.flatMap_cons, List.length_append, ih]; simp; omega
theorem wCells_at {q : HM} {k : Nat} {x : Int × Int} (h : q[k]? = some x) : (wCells q)[k * 2]? = some (.int .i64 x.1) ∧ (wCells q)[k * 2 + 1]? = some (.int .i64 x.2) := by
  induction q generalizing k with
  | nil => simp at h
  | cons y q ih =>
    have e : wCells (y :: q) = .int .i64 y.1 :: .int .i64 y.2 :: wCells q := rfl
    cases k with
    | zero => simp at h; subst h; rw [e]; exact ⟨rfl, rfl⟩
    | succ k =>
      rw [e]
      simp only [List.getElem?_cons_succ] at h
      obtain ⟨h1, h2⟩ := ih h
      rw [show (k + 1) * 2 = k * 2 + 2 by omega]
      exact ⟨h1, h2⟩
theorem wCells_app (a b : HM) : wCells (a ++ b) = wCells a ++ wCells b := by unfold wCells; rw [List.flatMap_append]
theorem wCells_take (q : HM) (k : Nat) : (wCells q).take (k * 2) = wCells (q.take k) := by
  induction q generalizing k with
  | nil => simp [wCells]
  | cons y q ih =>
    have e : wCells (y :: q) = .int .i64 y.1 :: .int .i64 y.2 :: wCells q := rfl
    cases k with
    | zero => rfl
    | succ k => rw [e, show (k + 1) * 2 = k * 2 + 2 by omega, List.take_succ_cons, List.take_succ_cons, ih]; rfl
theorem wCells_drop (q : HM) (k : Nat) : (wCells q).drop (k * 2) = wCells (q.drop k) := by
  induction q generalizing k with
  | nil => simp [wCells]
  | cons y q ih =>
    have e : wCells (y :: q) = .int .i64 y.1 :: .int .i64 y.2 :: wCells q := rfl
    cases k with
    | zero => rfl
    | succ k => rw [e, show (k + 1) * 2 = k * 2 + 2 by omega, List.drop_succ_cons, List.drop_succ_cons, ih]; rfl
theorem wCells_one {q : HM} : ∀ u ∈ wCells q, u.oneCell' = true := by
  intro u hu
  unfold wCells at hu
  obtain ⟨x, _, h⟩ := List.mem_flatMap.1 hu
  simp at h
  rcases h with rfl | rfl <;> rfl

/-- The first of which it holds; how many ahead of it. -/
def idxN (q : HM) (del : Int × Int → Bool) : Nat := (q.takeWhile (fun y => !del y)).length
def idxI (q : HM) (del : Int × Int → Bool) : Int := if idxN q del < q.length then idxN q del else -1

theorem idxN_le (q : HM) (del : Int × Int → Bool) : idxN q del ≤ q.length := (List.takeWhile_sublist _).length_le
theorem idxN_hit {q : HM} {del : Int × Int → Bool} {k : Nat} {x : Int × Int} (h : q[k]? = some x) (hd : del x = true) (hb : ∀ j, j < k → ∀ y, q[j]? = some y → del y = false) : idxN q del = k := by
  induction q generalizing k with
  | nil => simp at h
  | cons y q ih =>
    unfold idxN
    cases k with
    | zero => simp at h; subst h; simp [hd]
    | succ k =>
      have hy := hb 0 (by omega) y rfl
      rw [List.takeWhile_cons, hy]
      simp only [Bool.not_false, if_true, List.length_cons]
      have := ih (k := k) (by simpa using h) (fun j hj z hz => hb (j + 1) (by omega) z (by simpa using hz))
      unfold idxN at this
      omega
theorem idxN_miss {q : HM} {del : Int × Int → Bool} (hb : ∀ j, j < q.length → ∀ y, q[j]? = some y → del y = false) : idxN q del = q.length := by
  induction q with
  | nil => rfl
  | cons y q ih =>
    have hy := hb 0 (by simp) y rfl
    have := ih (fun j hj z hz => hb (j + 1) (by simp; omega) z (by simpa using hz))
    unfold idxN at this ⊢
    rw [List.takeWhile_cons, hy]
    simpa using this

/-- What a predicate tells. -/
def Tells (P : Program) (g : Nat) (lb : Array Value) (del : Int × Int → Bool) (F : List Nat) (W : World) : Prop :=
  ∀ (W' : World) (x : Int × Int), Only F W W' → Calls P g (#[.agg #[.int .i64 x.1, .int .i64 x.2]] ++ lb) W' fun e w' => e = .returned (.bool (del x)) ∧ Only [] W' w'

set_option maxRecDepth 100000 in
set_option maxHeartbeats 1000000 in
theorem index_any {w W : World} {l : List Res} {v : Value} {q : HM} (g : Nat) (lb : Array Value) (del : Int × Int → Bool) (eg : ∀ args w, (callFunc g args).run Tryd.prog w = .ok (.enter g args) w) (hp : Tells Tryd.prog g lb del [] W) (hlen : q.length ≤ 100000)
    (hs : Sep w W (winRes 65 2 v q.length (wCells q) :: l)) :
    Calls Tryd.prog 29 #[v, .func (.func g) #[] lb] W fun e W' => e = .returned (.int .i64 (idxI q del)) ∧ Only [] W W' := by
  rcases hs.win with ⟨rfl, h0, _⟩ | ⟨gb, o, cap, cur, A, S, rfl, hw⟩
  · have hq : q = [] := List.eq_nil_of_length_eq_zero h0
    subst hq
    clear hs hp
    go_enter Tryd.func29, Tryd.ntmps29
    go_wp2_with fail
    go_loopg [5, 8] 0 (fun gg _ s8 wr => s8 = .int .i64 0 ∧ Aside (Only [] W wr))
    case atStart => exact ⟨rfl, Only.refl _ _⟩
    case round =>
      obtain ⟨rfl, HO⟩ := hrel
      go_wp2_with fail
      go_ret
      exact ⟨rfl, HO.out⟩
  · have HW := Lib.hid hw
    have hgl := lt_of_block hw.blk
    have HG := Lib.hid hgl
    have HP := Lib.hid hp
    obtain ⟨N, hN⟩ : ∃ N, N = q.length := ⟨_, rfl⟩
    have HN := Lib.hid hN
    rw [← hN] at hlen ⊢
    clear hs hw hgl hp hN
    go_enter Tryd.func29, Tryd.ntmps29
    go_wp2_with fail
    go_loopg [5, 8] N (fun gg _ s8 wr => ∃ k : Nat, k ≤ N ∧ N - k ≤ gg ∧ s8 = .int .i64 k ∧ Aside (Only [] W wr) ∧ Aside (∀ j, j < k → ∀ y, q[j]? = some y → del y = false))
    case atStart => exact ⟨0, Nat.zero_le _, by omega, rfl, Only.refl _ _, (fun j hj => absurd hj (Nat.not_lt_zero _) : ∀ j, j < 0 → ∀ y, q[j]? = some y → del y = false)⟩
    case round =>
      obtain ⟨k, hk, hgg, rfl, HO, HA⟩ := hrel
      by_cases hlt : k < N
      · have hltz : (k : Int) < (N : Int) := by omega
        obtain ⟨x, hx⟩ : ∃ x, q[k]? = some x := ⟨q[k]'(by rw [← HN.out]; exact hlt), List.getElem?_eq_getElem _⟩
        obtain ⟨hx1, hx2⟩ := wCells_at hx
        have c0 := (HW.out.cell hx1).1
        have c1 := (HW.out.cell hx2).1
        rw [← HO.out.cell (p := ⟨gb, o + k * 2, none⟩) HG.out (by simp)] at c0
        rw [← HO.out.cell (p := ⟨gb, o + (k * 2 + 1), none⟩) HG.out (by simp), ← Nat.add_assoc] at c1
        have hcall := HP.out wr x HO.out
        have HX := Lib.hid hx
        clear hx hx1 hx2
        obtain ⟨x1, x2⟩ := x
        simp only at c0 c1 hcall
        cases hq : del (x1, x2) with
        | true =>
          rw [hq] at hcall
          have HC := Lib.hid hcall; clear hcall
          go_wp2_with fail
          refine HC.out.mono ?_
          rintro e w' ⟨rfl, hb'⟩
          go_wp2_with fail
          go_ret
          have h1 := idxN_hit HX.out hq HA.out
          have hl : idxN q del < q.length := by rw [h1, ← HN.out]; exact hlt
          refine ⟨?_, HO.out.trans hb' (Within.nil _ _)⟩
          unfold idxI
          rw [if_pos hl, h1]
          rfl
        | false =>
          rw [hq] at hcall
          have HC := Lib.hid hcall; clear hcall
          go_wp2_with fail
          refine HC.out.mono ?_
          rintro e w' ⟨rfl, hb'⟩
          go_wp2_with fail
          go_roundg (N - (k + 1))
          case measure => omega
          case rel =>
            refine ⟨k + 1, by omega, by omega, by go_num, HO.out.trans hb' (Within.nil _ _), (fun j hj y hy => ?_ : ∀ j, j < k + 1 → ∀ y, q[j]? = some y → del y = false)⟩
            by_cases e : j = k
            · subst e
              have := HX.out
              rw [hy] at this
              cases this
              exact hq
            · exact HA.out j (by omega) y hy
      · have hltz : ¬ (k : Int) < (N : Int) := by omega
        have hkN : k = N := by omega
        subst hkN
        go_wp2_with fail
        go_ret
        have h1 := idxN_miss (by rw [← HN.out]; exact HA.out)
        refine ⟨?_, HO.out⟩
        unfold idxI
        rw [if_neg (by rw [h1]; omega)]
        rfl

end Go.Proofs.YtipfjjcokajjjaaDoor
