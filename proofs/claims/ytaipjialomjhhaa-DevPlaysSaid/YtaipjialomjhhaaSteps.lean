/-
  What is proved here: how a slice of the statements' steps ('hedgerowlaw04.Step') lies in memory, and that any argument that reads as data lies so; the helper Mod.
  No condition but that the argument reads as data.
-/
import Derived.Test.YtaipjialomjhhaaLaw04
import Derived.Test.YtaipjialomjhhaaDevRes
import Derived.ProofKit
import Derived.OpenShut
import Derived.Deep.Slices
import Derived.Deep.Fields
namespace Go.Proofs.Ytaipjialomjhhaa
open Go.RowKit Go.ChangeShapes Go.WideShapes Go.Deep

structure StepD where
  kind : Int
  place : Int
  n : Int
  fill : UInt8
  kp : Option Addr
  kq : Nat
  keep : List Int

/-- The whole numbers l lie at p. -/
def IntsAt (w : World) (p : Option Addr) (l : List Int) : Prop :=
  ∀ k x, l[k]? = some x → ∃ b o, p = some ⟨b, o, none⟩ ∧ b < w.heap.size ∧ w.cell? ⟨b, o + k, none⟩ = some (.int .i64 x)

def inI64 (x : Int) : Prop := -9223372036854775808 ≤ x ∧ x ≤ 9223372036854775807

/-- The k-th of the steps l lies at p. -/
def StepsAt (w : World) (p : Option Addr) (l : List StepD) : Prop :=
  ∀ k x, l[k]? = some x → ∃ b o, p = some ⟨b, o, none⟩ ∧ b < w.heap.size ∧ inI64 x.kind ∧ inI64 x.place ∧ inI64 x.n ∧ (x.keep.length : Int) ≤ 9223372036854775807 ∧ (∀ y ∈ x.keep, inI64 y) ∧
    w.cell? ⟨b, o + k * 5, none⟩ = some (.int .i64 x.kind) ∧ w.cell? ⟨b, o + k * 5 + 1, none⟩ = some (.int .i64 x.place) ∧ w.cell? ⟨b, o + k * 5 + 2, none⟩ = some (.int .i64 x.n) ∧
    w.cell? ⟨b, o + k * 5 + 3, none⟩ = some (.int .u8 (x.fill.toNat : Int)) ∧ w.cell? ⟨b, o + k * 5 + 4, none⟩ = some (.slice x.kp x.keep.length x.kq) ∧ IntsAt w x.kp x.keep

theorem IntsAt.only {w W : World} {p : Option Addr} {l : List Int} (h : IntsAt w p l) (ho : Only [] w W) : IntsAt W p l := by
  intro k x hx
  obtain ⟨b, o, rfl, hb, hc⟩ := h k x hx
  exact ⟨b, o, rfl, Nat.lt_of_lt_of_le hb ho.size, by rw [ho.cell hb (by simp)]; exact hc⟩

theorem StepsAt.only {w W : World} {p : Option Addr} {l : List StepD} (h : StepsAt w p l) (ho : Only [] w W) : StepsAt W p l := by
  intro k x hx
  obtain ⟨b, o, rfl, hb, h1, h2, h3, h4, h5, c0, c1, c2, c3, c4, hi⟩ := h k x hx
  exact ⟨b, o, rfl, Nat.lt_of_lt_of_le hb ho.size, h1, h2, h3, h4, h5, by rw [ho.cell hb (by simp)]; exact c0, by rw [ho.cell hb (by simp)]; exact c1, by rw [ho.cell hb (by simp)]; exact c2,
    by rw [ho.cell hb (by simp)]; exact c3, by rw [ho.cell hb (by simp)]; exact c4, hi.only ho⟩

theorem list_of {α : Type} {Q : Nat → α → Prop} : ∀ (n : Nat), (∀ i, i < n → ∃ x, Q i x) → ∃ l : List α, l.length = n ∧ ∀ k x, l[k]? = some x → Q k x
  | 0, _ => ⟨[], rfl, fun k x h => by simp at h⟩
  | n + 1, h => by
    obtain ⟨l, hl, hq⟩ := list_of n (fun i hi => h i (by omega))
    obtain ⟨y, hy⟩ := h n (by omega)
    refine ⟨l ++ [y], by simp [hl], fun k x hx => ?_⟩
    by_cases hk : k < n
    · rw [List.getElem?_append_left (by omega)] at hx
      exact hq k x hx
    · have hlt := (List.getElem?_eq_some_iff.1 hx).1
      simp [hl] at hlt
      obtain rfl : k = n := by omega
      rw [List.getElem?_append_right (by omega), hl] at hx
      simp at hx
      subst hx
      exact hy

/-- An address that holds a cell. -/
theorem addr_plain {w : World} {a : Addr} {v : Value} (h : w.cell? a = some v) : ∃ b o, a = ⟨b, o, none⟩ ∧ b < w.heap.size := by
  obtain ⟨b, o, s⟩ := a
  unfold World.cell? at h
  split at h
  · rename_i c e f hb
    split at h
    · cases h
    · rename_i hs
      refine ⟨b, o, ?_, lt_of_block hb⟩
      simp at hs
      rw [hs]
  · cases h
theorem add_zero' (a : Addr) : a.add 0 = a := by unfold Addr.add; simp
theorem add_at (b o n : Nat) : (⟨b, o, none⟩ : Addr).add n = ⟨b, o + n, none⟩ := by unfold Addr.add; split <;> simp_all

section
variable {H : Type} {enc : TypeId × Value → H} {W : World}

theorem open_ints_at {sp : Nat → Bool} {held : Bool} {fuel : Nat} {v : Value} {x : DataW H × List MemPlace} (h : DataW.trod enc Try.prog W 0 sp held fuel 23 [v] = some x) :
    ∃ p l q, v = .slice p (List.length l) q ∧ ((List.length l : Nat) : Int) ≤ 9223372036854775807 ∧ (∀ y ∈ l, inI64 y) ∧ IntsAt W p l := by
  rcases open_slice Try.underlying23 h with ⟨hcs, _⟩ | ⟨a, len, cap, m, n, D, Pl, hcs, _, hl, hm, hmm, _, hx⟩
  · simp only [List.cons.injEq, and_true] at hcs
    subst hcs
    exact ⟨none, [], 0, rfl, by simp, by simp, by intro k x hx; simp at hx⟩
  · simp only [List.cons.injEq, and_true] at hcs
    subst hcs
    have hlm : len ≤ m := by rw [hmm]; split <;> omega
    have hC : Try.prog.cellsOf 3 = 1 := by kernel_rfl
    have hread : ∀ i, i < len → ∃ y, inI64 y ∧ W.cell? (a.add i) = some (.int .i64 y) := by
      intro i hi
      obtain ⟨cs', h1, h2⟩ := hx i (by omega)
      rw [hC] at h1
      obtain ⟨_, hlen, hat⟩ := World.cells?_some h1
      obtain ⟨y, he, _, wf⟩ := DataW.trod_int Try.underlying3 h2
      subst he
      have h3 := hat 0 (by omega)
      rw [Go.Deep.add_add, Nat.mul_one] at h3
      have hb := bounds_i64 wf
      exact ⟨y, ⟨by omega, by omega⟩, by simpa using h3⟩
    obtain ⟨l, hl1, hl2⟩ := list_of len hread
    subst hl1
    refine ⟨some a, l, cap, rfl, ?_, ?_, ?_⟩
    · simp [maxLen] at hm; omega
    · intro y hy
      obtain ⟨k, hk⟩ := List.getElem?_of_mem hy
      exact (hl2 k y hk).1
    · intro k x hkx
      have h0 : 0 < l.length := by have := (List.getElem?_eq_some_iff.1 hkx).1; omega
      have hz := (hl2 0 _ (List.getElem?_eq_getElem h0)).2
      rw [add_zero'] at hz
      obtain ⟨b, o, rfl, hb⟩ := addr_plain hz
      exact ⟨b, o, rfl, hb, by rw [← add_at]; exact (hl2 k x hkx).2⟩

set_option maxRecDepth 100000 in
theorem open_steps_at {sp : Nat → Bool} {held : Bool} {fuel : Nat} {v : Value} {x : DataW H × List MemPlace} (h : DataW.trod enc Try.prog W 0 sp held fuel 22 [v] = some x) :
    ∃ p l q, v = .slice p (List.length l) q ∧ ((List.length l : Nat) : Int) ≤ 9223372036854775807 ∧ StepsAt W p l := by
  rcases open_slice Try.underlying22 h with ⟨hcs, _⟩ | ⟨a, len, cap, m, n, D, Pl, hcs, _, hl, hm, hmm, _, hx⟩
  · simp only [List.cons.injEq, and_true] at hcs
    subst hcs
    exact ⟨none, [], 0, rfl, by simp, by intro k x hx; simp at hx⟩
  · simp only [List.cons.injEq, and_true] at hcs
    subst hcs
    have hlm : len ≤ m := by rw [hmm]; split <;> omega
    have hC : Try.prog.cellsOf 32 = 5 := by kernel_rfl
    have hread : ∀ i, i < len → ∃ y : StepD, inI64 y.kind ∧ inI64 y.place ∧ inI64 y.n ∧ (y.keep.length : Int) ≤ 9223372036854775807 ∧ (∀ z ∈ y.keep, inI64 z) ∧
        W.cell? (a.add (i * 5)) = some (.int .i64 y.kind) ∧ W.cell? (a.add (i * 5 + 1)) = some (.int .i64 y.place) ∧ W.cell? (a.add (i * 5 + 2)) = some (.int .i64 y.n) ∧
        W.cell? (a.add (i * 5 + 3)) = some (.int .u8 (y.fill.toNat : Int)) ∧ W.cell? (a.add (i * 5 + 4)) = some (.slice y.kp y.keep.length y.kq) ∧ IntsAt W y.kp y.keep := by
      intro i hi
      obtain ⟨cs', h1, h2⟩ := hx i (by omega)
      rw [hC] at h1
      obtain ⟨_, hlen, hat⟩ := World.cells?_some h1
      obtain ⟨xs, n', _, _, hcl, hxl, hf⟩ := DataW.trod_struct Try.underlying32 h2
      obtain ⟨c0, c1, c2, c3, c4, rfl⟩ : ∃ c0 c1 c2 c3 c4, cs' = [c0, c1, c2, c3, c4] := by
        match cs', hlen with
        | [c0, c1, c2, c3, c4], _ => exact ⟨c0, c1, c2, c3, c4, rfl⟩
      have g0 : DataW.trod enc Try.prog W 0 sp held n' 3 ((([c0, c1, c2, c3, c4] : List Value).drop 0).take (Try.prog.cellsOf 3)) = xs[0]? := hf 0 _ rfl
      have g1 : DataW.trod enc Try.prog W 0 sp held n' 3 ((([c0, c1, c2, c3, c4] : List Value).drop 1).take (Try.prog.cellsOf 3)) = xs[1]? := hf 1 _ rfl
      have g2 : DataW.trod enc Try.prog W 0 sp held n' 3 ((([c0, c1, c2, c3, c4] : List Value).drop 2).take (Try.prog.cellsOf 3)) = xs[2]? := hf 2 _ rfl
      have g3 : DataW.trod enc Try.prog W 0 sp held n' 5 ((([c0, c1, c2, c3, c4] : List Value).drop 3).take (Try.prog.cellsOf 5)) = xs[3]? := hf 3 _ rfl
      have g4 : DataW.trod enc Try.prog W 0 sp held n' 23 ((([c0, c1, c2, c3, c4] : List Value).drop 4).take (Try.prog.cellsOf 23)) = xs[4]? := hf 4 _ rfl
      have l0 : xs[0]? = some (xs[0]'(by rw [hxl]; decide)) := List.getElem?_eq_getElem _
      have l1 : xs[1]? = some (xs[1]'(by rw [hxl]; decide)) := List.getElem?_eq_getElem _
      have l2 : xs[2]? = some (xs[2]'(by rw [hxl]; decide)) := List.getElem?_eq_getElem _
      have l3 : xs[3]? = some (xs[3]'(by rw [hxl]; decide)) := List.getElem?_eq_getElem _
      have l4 : xs[4]? = some (xs[4]'(by rw [hxl]; decide)) := List.getElem?_eq_getElem _
      rw [l0] at g0; rw [l1] at g1; rw [l2] at g2; rw [l3] at g3; rw [l4] at g4
      have k1 : Try.prog.cellsOf 3 = 1 := by kernel_rfl
      have k2 : Try.prog.cellsOf 5 = 1 := by kernel_rfl
      have k3 : Try.prog.cellsOf 23 = 1 := by kernel_rfl
      simp only [k1, k2, k3, List.drop_zero, List.drop_succ_cons, List.take_succ_cons, List.take_zero] at g0 g1 g2 g3 g4
      obtain ⟨y0, e0, _, w0⟩ := DataW.trod_int Try.underlying3 g0
      obtain ⟨y1, e1, _, w1⟩ := DataW.trod_int Try.underlying3 g1
      obtain ⟨y2, e2, _, w2⟩ := DataW.trod_int Try.underlying3 g2
      obtain ⟨y3, e3, _, w3⟩ := DataW.trod_int Try.underlying5 g3
      obtain ⟨p, l, q, e4, hll, hlb, hi4⟩ := open_ints_at g4
      simp only [List.cons.injEq, and_true] at e0 e1 e2 e3
      subst e0 e1 e2 e3 e4
      have b0 := bounds_i64 w0
      have b1 := bounds_i64 w1
      have b2 := bounds_i64 w2
      have b3 := bounds_u8 w3
      have q0 := hat 0 (by omega)
      have q1 := hat 1 (by omega)
      have q2 := hat 2 (by omega)
      have q3 := hat 3 (by omega)
      have q4 := hat 4 (by omega)
      rw [Go.Deep.add_add] at q0 q1 q2 q3 q4
      have e3 : ((UInt8.ofNat y3.toNat).toNat : Int) = y3 := by
        rw [UInt8.toNat_ofNat']
        have h1 := b3.1
        have h2 := b3.2
        omega
      refine ⟨⟨y0, y1, y2, UInt8.ofNat y3.toNat, p, q, l⟩, b0, b1, b2, hll, hlb, ?_, ?_, ?_, ?_, ?_, hi4⟩
      · simpa using q0
      · simpa using q1
      · simpa using q2
      · show W.cell? _ = some (.int .u8 ((UInt8.ofNat y3.toNat).toNat : Int)); rw [e3]; simpa using q3
      · simpa using q4
    obtain ⟨l, hl1, hl2⟩ := list_of len hread
    subst hl1
    refine ⟨some a, l, cap, rfl, ?_, ?_⟩
    · simp [maxLen] at hm; omega
    · intro k x hkx
      have h0 : 0 < l.length := by have := (List.getElem?_eq_some_iff.1 hkx).1; omega
      have hz := (hl2 0 _ (List.getElem?_eq_getElem h0)).2.2.2.2.2.1
      rw [Nat.zero_mul, add_zero'] at hz
      obtain ⟨b, o, rfl, hb⟩ := addr_plain hz
      obtain ⟨h1, h2, h3, h4, h5, c0, c1, c2, c3, c4, hi⟩ := hl2 k x hkx
      rw [add_at] at c0 c1 c2 c3 c4
      exact ⟨b, o, rfl, hb, h1, h2, h3, h4, h5, c0, c1, c2, c3, c4, hi⟩
end

/-- An argument of that type lies so. -/
theorem open_steps {H : Type} {enc : TypeId × Value → H} {W : World} {sp : Nat → Bool} {v : Value} {d : DataW H} {ps : List MemPlace} (hv : ∃ a len cap, v = .slice a len cap) (h : DataW.Trod enc Try.prog W 0 sp true 22 v d ps) :
    ∃ p l q, v = .slice p (List.length l) q ∧ ((List.length l : Nat) : Int) ≤ 9223372036854775807 ∧ StepsAt W p l := by
  obtain ⟨a, len, cap, rfl⟩ := hv
  obtain ⟨fuel, hf⟩ := h
  exact open_steps_at hf
theorem open_ints' {H : Type} {enc : TypeId × Value → H} {W : World} {sp : Nat → Bool} {v : Value} {d : DataW H} {ps : List MemPlace} (hv : ∃ a len cap, v = .slice a len cap) (h : DataW.Trod enc Try.prog W 0 sp true 23 v d ps) :
    ∃ p l q, v = .slice p (List.length l) q ∧ ((List.length l : Nat) : Int) ≤ 9223372036854775807 ∧ (∀ y ∈ l, inI64 y) ∧ IntsAt W p l := by
  obtain ⟨a, len, cap, rfl⟩ := hv
  obtain ⟨fuel, hf⟩ := h
  exact open_ints_at hf

theorem mod_eq (k n : Int) : (k.tmod n + n) % n = k % n := by
  rw [Int.add_emod_right, Int.tmod_def, Int.sub_mul_emod_self_left]

theorem mod_any (k n : Int) (w : World) (hn : 1 ≤ n) (hn2 : n ≤ 1000000) (_h1 : -9223372036854775808 ≤ k) (_h2 : k ≤ 9223372036854775807) :
    Calls Try.prog 11 #[.int .i64 k, .int .i64 n] w fun e w' => e = .returned (.int .i64 (k % n)) ∧ w = w' := by
  have e := mod_eq k n
  have E := Lib.hid e; clear e
  have t1 := Int.lt_tmod_of_pos k (show 0 < n by omega)
  have t2 := Int.tmod_lt_of_pos k (show 0 < n by omega)
  go_enter Try.func11, Try.ntmps11
  go_wp2
  go_ret
  exact ⟨congrArg (fun x => Ending.returned (Value.int .i64 x)) E.out, rfl⟩
end Go.Proofs.Ytaipjialomjhhaa
