/-
  What is proved here: how the steps of the statements on locks lie in memory, and that any argument that reads as data lies so; 'fair'; the helper Mod.
  No condition but that the argument reads as data.
-/
import Derived.Test.YtipfjjcokajjjaaDoorOpen
import Derived.Test.YtipfjjcokajjjaaDoorLkY
namespace Go.Proofs.YtipfjjcokajjjaaDoor
open Go.RowKit Go.ChangeShapes Go.WideShapes Go.Deep

theorem zdrop_at {α : Type} {l : List α} {i : Nat} {x : α} (h : l[i]? = some x) : l.drop i = x :: l.drop (i + 1) := by
  obtain ⟨hi, rfl⟩ := List.getElem?_eq_some_iff.1 h
  exact List.drop_eq_getElem_cons hi

structure StepD where
  kind : Int
  holder : Int
  thing : ByteArray
  mode : Int

/-- The k-th of the steps l lies at p. -/
def StepsAt (w : World) (p : Option Addr) (l : List StepD) : Prop :=
  ∀ k x, l[k]? = some x → ∃ b o, p = some ⟨b, o, none⟩ ∧ b < w.heap.size ∧ inI64 x.holder ∧ inI64 x.mode ∧
    w.cell? ⟨b, o + k * 4, none⟩ = some (.int .i64 x.kind) ∧ w.cell? ⟨b, o + k * 4 + 1, none⟩ = some (.int .i64 x.holder) ∧ w.cell? ⟨b, o + k * 4 + 2, none⟩ = some (.string x.thing) ∧ w.cell? ⟨b, o + k * 4 + 3, none⟩ = some (.int .i64 x.mode)

theorem StepsAt.only {w W : World} {p : Option Addr} {l : List StepD} (h : StepsAt w p l) (ho : Only [] w W) : StepsAt W p l := by
  intro k x hx
  obtain ⟨b, o, rfl, hb, h1, h2, c0, c1, c2, c3⟩ := h k x hx
  exact ⟨b, o, rfl, Nat.lt_of_lt_of_le hb ho.size, h1, h2, by rw [ho.cell hb (by simp)]; exact c0, by rw [ho.cell hb (by simp)]; exact c1, by rw [ho.cell hb (by simp)]; exact c2, by rw [ho.cell hb (by simp)]; exact c3⟩

section
variable {H : Type} {enc : TypeId × Value → H} {W : World}

set_option maxRecDepth 100000 in
theorem open_steps_at {sp : Nat → Bool} {held : Bool} {fuel : Nat} {v : Value} {x : DataW H × List MemPlace} (h : DataW.trod enc Tryd.prog W 0 sp held fuel 22 [v] = some x) :
    ∃ p l q, v = .slice p (List.length l) q ∧ ((List.length l : Nat) : Int) ≤ 9223372036854775807 ∧ StepsAt W p l := by
  rcases open_slice Tryd.underlying22 h with ⟨hcs, _⟩ | ⟨a, len, cap, m, n, D, Pl, hcs, _, hl, hm, hmm, _, hx⟩
  · simp only [List.cons.injEq, and_true] at hcs
    subst hcs
    exact ⟨none, [], 0, rfl, by simp, by intro k x hx; simp at hx⟩
  · simp only [List.cons.injEq, and_true] at hcs
    subst hcs
    have hlm : len ≤ m := by rw [hmm]; split <;> omega
    have hC : Tryd.prog.cellsOf 32 = 4 := by kernel_rfl
    have hread : ∀ i, i < len → ∃ y : StepD, inI64 y.holder ∧ inI64 y.mode ∧
        W.cell? (a.add (i * 4)) = some (.int .i64 y.kind) ∧ W.cell? (a.add (i * 4 + 1)) = some (.int .i64 y.holder) ∧ W.cell? (a.add (i * 4 + 2)) = some (.string y.thing) ∧ W.cell? (a.add (i * 4 + 3)) = some (.int .i64 y.mode) := by
      intro i hi
      obtain ⟨cs', h1, h2⟩ := hx i (by omega)
      rw [hC] at h1
      obtain ⟨_, hlen, hat⟩ := World.cells?_some h1
      obtain ⟨xs, n', _, _, hcl, hxl, hf⟩ := DataW.trod_struct Tryd.underlying32 h2
      obtain ⟨c0, c1, c2, c3, rfl⟩ : ∃ c0 c1 c2 c3, cs' = [c0, c1, c2, c3] := by
        match cs', hlen with
        | [c0, c1, c2, c3], _ => exact ⟨c0, c1, c2, c3, rfl⟩
      have g0 : DataW.trod enc Tryd.prog W 0 sp held n' 3 ((([c0, c1, c2, c3] : List Value).drop 0).take (Tryd.prog.cellsOf 3)) = xs[0]? := hf 0 _ rfl
      have g1 : DataW.trod enc Tryd.prog W 0 sp held n' 3 ((([c0, c1, c2, c3] : List Value).drop 1).take (Tryd.prog.cellsOf 3)) = xs[1]? := hf 1 _ rfl
      have g2 : DataW.trod enc Tryd.prog W 0 sp held n' 9 ((([c0, c1, c2, c3] : List Value).drop 2).take (Tryd.prog.cellsOf 9)) = xs[2]? := hf 2 _ rfl
      have g3 : DataW.trod enc Tryd.prog W 0 sp held n' 3 ((([c0, c1, c2, c3] : List Value).drop 3).take (Tryd.prog.cellsOf 3)) = xs[3]? := hf 3 _ rfl
      have l0 : xs[0]? = some (xs[0]'(by rw [hxl]; decide)) := List.getElem?_eq_getElem _
      have l1 : xs[1]? = some (xs[1]'(by rw [hxl]; decide)) := List.getElem?_eq_getElem _
      have l2 : xs[2]? = some (xs[2]'(by rw [hxl]; decide)) := List.getElem?_eq_getElem _
      have l3 : xs[3]? = some (xs[3]'(by rw [hxl]; decide)) := List.getElem?_eq_getElem _
      rw [l0] at g0; rw [l1] at g1; rw [l2] at g2; rw [l3] at g3
      have k1 : Tryd.prog.cellsOf 3 = 1 := by kernel_rfl
      have k2 : Tryd.prog.cellsOf 9 = 1 := by kernel_rfl
      simp only [k1, k2, List.drop_zero, List.drop_succ_cons, List.take_succ_cons, List.take_zero] at g0 g1 g2 g3
      obtain ⟨y0, e0, _, w0⟩ := DataW.trod_int Tryd.underlying3 g0
      obtain ⟨y1, e1, _, w1⟩ := DataW.trod_int Tryd.underlying3 g1
      obtain ⟨y2, e2, _, _⟩ := DataW.trod_string Tryd.underlying9 g2
      obtain ⟨y3, e3, _, w3⟩ := DataW.trod_int Tryd.underlying3 g3
      simp only [List.cons.injEq, and_true] at e0 e1 e2 e3
      subst e0 e1 e2 e3
      have b1 := bounds_i64 w1
      have b3 := bounds_i64 w3
      have q0 := hat 0 (by omega)
      have q1 := hat 1 (by omega)
      have q2 := hat 2 (by omega)
      have q3 := hat 3 (by omega)
      rw [Go.Deep.add_add] at q0 q1 q2 q3
      refine ⟨⟨y0, y1, y2, y3⟩, b1, b3, ?_, ?_, ?_, ?_⟩
      · simpa using q0
      · simpa using q1
      · simpa using q2
      · simpa using q3
    obtain ⟨l, hl1, hl2⟩ := list_of len hread
    subst hl1
    refine ⟨some a, l, cap, rfl, ?_, ?_⟩
    · simp [maxLen] at hm; omega
    · intro k x hkx
      have h0 : 0 < l.length := by have := (List.getElem?_eq_some_iff.1 hkx).1; omega
      have hz := (hl2 0 _ (List.getElem?_eq_getElem h0)).2.2.1
      rw [Nat.zero_mul, add_zero'] at hz
      obtain ⟨b, o, rfl, hb⟩ := addr_plain hz
      obtain ⟨h1, h2, c0, c1, c2, c3⟩ := hl2 k x hkx
      rw [add_at] at c0 c1 c2 c3
      exact ⟨b, o, rfl, hb, h1, h2, c0, c1, c2, c3⟩
end

/-- An argument of that type lies so. -/
theorem open_steps {H : Type} {enc : TypeId × Value → H} {W : World} {sp : Nat → Bool} {v : Value} {d : DataW H} {ps : List MemPlace} (hv : ∃ a len cap, v = .slice a len cap) (h : DataW.Trod enc Tryd.prog W 0 sp true 22 v d ps) :
    ∃ p l q, v = .slice p (List.length l) q ∧ ((List.length l : Nat) : Int) ≤ 9223372036854775807 ∧ StepsAt W p l := by
  obtain ⟨a, len, cap, rfl⟩ := hv
  obtain ⟨fuel, hf⟩ := h
  exact open_steps_at hf

theorem mod_eq (k n : Int) : (k.tmod n + n) % n = k % n := by
  rw [Int.add_emod_right, Int.tmod_def, Int.sub_mul_emod_self_left]

theorem mod_any (k n : Int) (w : World) (hn : 1 ≤ n) (hn2 : n ≤ 1000000) (_h1 : -9223372036854775808 ≤ k) (_h2 : k ≤ 9223372036854775807) :
    Calls Tryd.prog 27 #[.int .i64 k, .int .i64 n] w fun e w' => e = .returned (.int .i64 (k % n)) ∧ w = w' := by
  have e := mod_eq k n
  have E := Lib.hid e; clear e
  have t1 := Int.lt_tmod_of_pos k (show 0 < n by omega)
  have t2 := Int.tmod_lt_of_pos k (show 0 < n by omega)
  go_enter Tryd.func27, Tryd.ntmps27
  go_wp2
  go_ret
  exact ⟨congrArg (fun x => Ending.returned (Value.int .i64 x)) E.out, rfl⟩

/-- Are the steps short, and few? -/
def fairB (l : List StepD) : Bool := l.all (fun x => decide (x.thing.size ≤ 1000)) && decide (l.length ≤ 300)

set_option maxRecDepth 100000 in
theorem fair_any (p : Option Addr) (l : List StepD) (q : Nat) (w : World) (hl : ((l.length : Nat) : Int) ≤ 9223372036854775807) (hst : StepsAt w p l) :
    Calls Tryd.prog 11 #[.slice p l.length q] w fun e w' => e = .returned (.bool (fairB l)) ∧ w = w' := by
  have HST := Lib.hid hst; clear hst
  go_enter Tryd.func11, Tryd.ntmps11
  go_wp2_with fail
  go_loopw [3] (fun s3 wr => ∃ i : Nat, i ≤ l.length ∧ s3 = .int .i64 i ∧ w = wr ∧ (l.drop i).all (fun x => decide (x.thing.size ≤ 1000)) = l.all (fun x => decide (x.thing.size ≤ 1000))) (fun s3 _ => l.length - (intOf s3).toNat)
  case atStart => exact ⟨0, Nat.zero_le _, rfl, rfl, rfl⟩
  case round =>
    obtain ⟨i, hi, rfl, rfl, ha⟩ := hrel
    by_cases hlt : i < l.length
    · obtain ⟨x, hx⟩ : ∃ x, l[i]? = some x := ⟨_, List.getElem?_eq_getElem hlt⟩
      obtain ⟨b, o, rfl, hb, _, _, c0, c1, c2, c3⟩ := HST.out i x hx
      rw [zdrop_at hx] at ha
      simp only [List.all_cons] at ha
      clear hx
      by_cases h3 : 1000 < x.thing.size
      · rw [decide_eq_false (by omega), Bool.false_and] at ha
        have HF : Hid (fairB l = false) := by show _ = _; unfold fairB; rw [← ha, Bool.false_and]
        clear ha
        go_wp2_with fail
        go_ret
        exact ⟨by rw [HF.out]; rfl, rfl⟩
      · rw [decide_eq_true (by omega), Bool.true_and] at ha
        have HA := Lib.hid ha; clear ha
        go_wp2_with fail
        go_roundw
        case rel => exact ⟨i + 1, by omega, by go_num, trivial, HA.out⟩
        case measure => simp [intOf]; omega
    · rw [List.drop_eq_nil_of_le (by omega)] at ha
      have HF : Hid (fairB l = decide ((l.length : Int) ≤ 300)) := by
        show _ = _
        unfold fairB
        rw [← ha, List.all_nil, Bool.true_and]
        by_cases h : l.length ≤ 300
        · rw [decide_eq_true h, decide_eq_true (by omega)]
        · rw [decide_eq_false h, decide_eq_false (by omega)]
      clear ha
      go_wp2_with fail
      go_ret
      exact ⟨by rw [HF.out]; rfl, rfl⟩

theorem fair_true {l : List StepD} (h : fairB l = true) : l.length ≤ 300 ∧ ∀ x ∈ l, x.thing.size ≤ 1000 := by
  unfold fairB at h
  simp only [Bool.and_eq_true, decide_eq_true_eq, List.all_eq_true] at h
  exact ⟨h.2, h.1⟩

end Go.Proofs.YtipfjjcokajjjaaDoor
