/-
  What is proved here: how arguments lie in memory: lists of whole numbers; what lies at an address.
  No condition.
-/
import Derived.Test.YtipfjjcokajjjaaDoorKit
import Derived.ProofKit
import Derived.OpenShut
import Derived.Deep.Slices
import Derived.Deep.Fields
namespace Go.Proofs.YtipfjjcokajjjaaDoor
open Go.RowKit Go.ChangeShapes Go.WideShapes Go.Deep

/-- The whole numbers l lie at p. -/
def IntsAt (w : World) (p : Option Addr) (l : List Int) : Prop :=
  ∀ k x, l[k]? = some x → ∃ b o, p = some ⟨b, o, none⟩ ∧ b < w.heap.size ∧ w.cell? ⟨b, o + k, none⟩ = some (.int .i64 x)

def inI64 (x : Int) : Prop := -9223372036854775808 ≤ x ∧ x ≤ 9223372036854775807

theorem IntsAt.only {w W : World} {p : Option Addr} {l : List Int} (h : IntsAt w p l) (ho : Only [] w W) : IntsAt W p l := by
  intro k x hx
  obtain ⟨b, o, rfl, hb, hc⟩ := h k x hx
  exact ⟨b, o, rfl, Nat.lt_of_lt_of_le hb ho.size, by rw [ho.cell hb (by simp)]; exact hc⟩

theorem list_of {α : Type} {Q : Nat → α → Prop} : ∀ (n : Nat), (∀ i, i < n → ∃ x, Q i x) → ∃ l : List α, l.length = n ∧ ∀ k x, l[k]? = some x → Q k x
  | 0, _ => ⟨[], rfl, fun k x h => by simp at h⟩
  | n + 1, h => by
    obtain ⟨l, hl, hq⟩ := list_of n (fun i hi => h i (by omega))
    obtain ⟨y, hy⟩ := h n (by omega)
    refine ⟨l ++ [y], by simp [hl], fun k x hx => ?_⟩
    by_cases hk : k < n
    · rw [List.getElem?_append_left (by omega)] at hx
      exact hq k x hx
    · have hlt := (List.getElem?_eq_some_iff.1 hx).1
      simp [hl] at hlt
      obtain rfl : k = n := by omega
      rw [List.getElem?_append_right (by omega), hl] at hx
      simp at hx
      subst hx
      exact hy

/-- An address that holds a cell. -/
theorem addr_plain {w : World} {a : Addr} {v : Value} (h : w.cell? a = some v) : ∃ b o, a = ⟨b, o, none⟩ ∧ b < w.heap.size := by
  obtain ⟨b, o, s⟩ := a
  unfold World.cell? at h
  split at h
  · rename_i c e f hb
    split at h
    · cases h
    · rename_i hs
      refine ⟨b, o, ?_, lt_of_block hb⟩
      simp at hs
      rw [hs]
  · cases h
theorem add_zero' (a : Addr) : a.add 0 = a := by unfold Addr.add; simp
theorem add_at (b o n : Nat) : (⟨b, o, none⟩ : Addr).add n = ⟨b, o + n, none⟩ := by unfold Addr.add; split <;> simp_all

section
variable {H : Type} {enc : TypeId × Value → H} {W : World}

theorem open_ints_at {sp : Nat → Bool} {held : Bool} {fuel : Nat} {v : Value} {x : DataW H × List MemPlace} (h : DataW.trod enc Tryd.prog W 0 sp held fuel 37 [v] = some x) :
    ∃ p l q, v = .slice p (List.length l) q ∧ ((List.length l : Nat) : Int) ≤ 9223372036854775807 ∧ (∀ y ∈ l, inI64 y) ∧ IntsAt W p l := by
  rcases open_slice Tryd.underlying37 h with ⟨hcs, _⟩ | ⟨a, len, cap, m, n, D, Pl, hcs, _, hl, hm, hmm, _, hx⟩
  · simp only [List.cons.injEq, and_true] at hcs
    subst hcs
    exact ⟨none, [], 0, rfl, by simp, by simp, by intro k x hx; simp at hx⟩
  · simp only [List.cons.injEq, and_true] at hcs
    subst hcs
    have hlm : len ≤ m := by rw [hmm]; split <;> omega
    have hC : Tryd.prog.cellsOf 3 = 1 := by kernel_rfl
    have hread : ∀ i, i < len → ∃ y, inI64 y ∧ W.cell? (a.add i) = some (.int .i64 y) := by
      intro i hi
      obtain ⟨cs', h1, h2⟩ := hx i (by omega)
      rw [hC] at h1
      obtain ⟨_, hlen, hat⟩ := World.cells?_some h1
      obtain ⟨y, he, _, wf⟩ := DataW.trod_int Tryd.underlying3 h2
      subst he
      have h3 := hat 0 (by omega)
      rw [Go.Deep.add_add, Nat.mul_one] at h3
      have hb := bounds_i64 wf
      exact ⟨y, ⟨by omega, by omega⟩, by simpa using h3⟩
    obtain ⟨l, hl1, hl2⟩ := list_of len hread
    subst hl1
    refine ⟨some a, l, cap, rfl, ?_, ?_, ?_⟩
    · simp [maxLen] at hm; omega
    · intro y hy
      obtain ⟨k, hk⟩ := List.getElem?_of_mem hy
      exact (hl2 k y hk).1
    · intro k x hkx
      have h0 : 0 < l.length := by have := (List.getElem?_eq_some_iff.1 hkx).1; omega
      have hz := (hl2 0 _ (List.getElem?_eq_getElem h0)).2
      rw [add_zero'] at hz
      obtain ⟨b, o, rfl, hb⟩ := addr_plain hz
      exact ⟨b, o, rfl, hb, by rw [← add_at]; exact (hl2 k x hkx).2⟩

end

theorem open_ints' {H : Type} {enc : TypeId × Value → H} {W : World} {sp : Nat → Bool} {v : Value} {d : DataW H} {ps : List MemPlace} (hv : ∃ a len cap, v = .slice a len cap) (h : DataW.Trod enc Tryd.prog W 0 sp true 37 v d ps) :
    ∃ p l q, v = .slice p (List.length l) q ∧ ((List.length l : Nat) : Int) ≤ 9223372036854775807 ∧ (∀ y ∈ l, inI64 y) ∧ IntsAt W p l := by
  obtain ⟨a, len, cap, rfl⟩ := hv
  obtain ⟨fuel, hf⟩ := h
  exact open_ints_at hf


end Go.Proofs.YtipfjjcokajjjaaDoor
