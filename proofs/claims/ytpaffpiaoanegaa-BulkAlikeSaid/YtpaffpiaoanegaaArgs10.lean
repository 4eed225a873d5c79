/-
  What is proved here: how lists of texts, and pairs of texts, lie in memory as arguments.
  No condition but that the argument reads as data.
-/
import Derived.Test.YtpaffpiaoanegaaOpen
namespace Go.Proofs.Ytpaffpiaoanegaa
open Go.RowKit Go.ChangeShapes Go.WideShapes Go.Deep

/-- The texts l lie at p. -/
def StrsAt (w : World) (p : Option Addr) (l : List ByteArray) : Prop :=
  ∀ k x, l[k]? = some x → ∃ b o, p = some ⟨b, o, none⟩ ∧ b < w.heap.size ∧ w.cell? ⟨b, o + k, none⟩ = some (.string x)

theorem StrsAt.only {w W : World} {p : Option Addr} {l : List ByteArray} (h : StrsAt w p l) (ho : Only [] w W) : StrsAt W p l := by
  intro k x hx
  obtain ⟨b, o, rfl, hb, hc⟩ := h k x hx
  exact ⟨b, o, rfl, Nat.lt_of_lt_of_le hb ho.size, by rw [ho.cell hb (by simp)]; exact hc⟩

section
variable {H : Type} {enc : TypeId × Value → H} {W : World}

theorem open_strs_at {sp : Nat → Bool} {held : Bool} {fuel : Nat} {v : Value} {x : DataW H × List MemPlace} (h : DataW.trod enc Try.prog W 0 sp held fuel 36 [v] = some x) :
    ∃ p l q, v = .slice p (List.length l) q ∧ ((List.length l : Nat) : Int) ≤ 9223372036854775807 ∧ StrsAt W p l := by
  rcases open_slice Try.underlying36 h with ⟨hcs, _⟩ | ⟨a, len, cap, m, n, D, Pl, hcs, _, hl, hm, hmm, _, hx⟩
  · simp only [List.cons.injEq, and_true] at hcs
    subst hcs
    exact ⟨none, [], 0, rfl, by simp, by intro k x hx; simp at hx⟩
  · simp only [List.cons.injEq, and_true] at hcs
    subst hcs
    have hlm : len ≤ m := by rw [hmm]; split <;> omega
    have hC : Try.prog.cellsOf 9 = 1 := by kernel_rfl
    have hread : ∀ i, i < len → ∃ y, W.cell? (a.add i) = some (.string y) := by
      intro i hi
      obtain ⟨cs', h1, h2⟩ := hx i (by omega)
      rw [hC] at h1
      obtain ⟨_, hlen, hat⟩ := World.cells?_some h1
      obtain ⟨y, he, _, _⟩ := DataW.trod_string Try.underlying9 h2
      subst he
      have h3 := hat 0 (by omega)
      rw [Go.Deep.add_add, Nat.mul_one] at h3
      exact ⟨y, by simpa using h3⟩
    obtain ⟨l, hl1, hl2⟩ := list_of len hread
    subst hl1
    refine ⟨some a, l, cap, rfl, ?_, ?_⟩
    · simp [maxLen] at hm; omega
    · intro k x hkx
      have h0 : 0 < l.length := by have := (List.getElem?_eq_some_iff.1 hkx).1; omega
      have hz := hl2 0 _ (List.getElem?_eq_getElem h0)
      rw [add_zero'] at hz
      obtain ⟨b, o, rfl, hb⟩ := addr_plain hz
      exact ⟨b, o, rfl, hb, by rw [← add_at]; exact hl2 k x hkx⟩
end

theorem open_strs {H : Type} {enc : TypeId × Value → H} {W : World} {sp : Nat → Bool} {v : Value} {d : DataW H} {ps : List MemPlace} (hv : ∃ a len cap, v = .slice a len cap) (h : DataW.Trod enc Try.prog W 0 sp true 36 v d ps) :
    ∃ p l q, v = .slice p (List.length l) q ∧ ((List.length l : Nat) : Int) ≤ 9223372036854775807 ∧ StrsAt W p l := by
  obtain ⟨a, len, cap, rfl⟩ := hv
  obtain ⟨fuel, hf⟩ := h
  exact open_strs_at hf

theorem open_ints {H : Type} {enc : TypeId × Value → H} {W : World} {sp : Nat → Bool} {v : Value} {d : DataW H} {ps : List MemPlace} (hv : ∃ a len cap, v = .slice a len cap) (h : DataW.Trod enc Try.prog W 0 sp true 37 v d ps) :
    ∃ p l q, v = .slice p (List.length l) q ∧ ((List.length l : Nat) : Int) ≤ 9223372036854775807 ∧ ((∀ y ∈ l, inI64 y) ∧ IntsAt W p l) := by
  obtain ⟨p, l, q, h1, h2, h3, h4⟩ := open_ints' hv h
  exact ⟨p, l, q, h1, h2, h3, h4⟩
end Go.Proofs.Ytpaffpiaoanegaa
