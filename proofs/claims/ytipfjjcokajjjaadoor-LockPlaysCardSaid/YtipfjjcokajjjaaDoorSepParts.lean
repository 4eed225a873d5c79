/-
  What is proved here: a part of memory that is made of parts ('partsRes'): it may be opened into them, and closed again; for any program.
  No condition.
-/
import Derived.Test.YtipfjjcokajjjaaDoorSepRow
namespace Go.Proofs.YtipfjjcokajjjaaDoor
open Go.RowKit

/-- Parts as one part. -/
def partsRes (l : List Res) : Res where
  at' W F := Parts W l F
  lt h := h.lt
  only h ho hd := Parts.only ho h hd

theorem Parts.append {W : World} : ∀ {l l' : List Res} {F : List Nat}, Parts W (l ++ l') F ↔ ∃ F1 F2, F = F1 ++ F2 ∧ Parts W l F1 ∧ Parts W l' F2 ∧ ∀ k ∈ F1, k ∉ F2
  | [], l', F => by
    constructor
    · intro h; exact ⟨[], F, rfl, rfl, h, by simp⟩
    · rintro ⟨F1, F2, rfl, h1, h2, _⟩
      rw [show F1 = [] from h1]; exact h2
  | R :: l, l', F => by
    constructor
    · rintro ⟨F1, F2, rfl, h1, h2, h3⟩
      obtain ⟨F3, F4, rfl, h4, h5, h6⟩ := Parts.append.1 h2
      refine ⟨F1 ++ F3, F4, by simp, ⟨F1, F3, rfl, h1, h4, fun k hk q => h3 k hk (List.mem_append_left _ q)⟩, h5, fun k hk q => ?_⟩
      rcases List.mem_append.1 hk with r | r
      · exact h3 k r (List.mem_append_right _ q)
      · exact h6 k r q
    · rintro ⟨F1, F2, rfl, ⟨F3, F4, rfl, h1, h2, h3⟩, h4, h5⟩
      refine ⟨F3, F4 ++ F2, by simp, h1, Parts.append.2 ⟨F4, F2, rfl, h2, h4, fun k hk q => h5 k (List.mem_append_right _ hk) q⟩, fun k hk q => ?_⟩
      rcases List.mem_append.1 q with r | r
      · exact h3 k hk r
      · exact h5 k (List.mem_append_left _ hk) r

/-- A part of which more is said: of some x, its parts, and a plain fact. -/
def exRes {α : Type} (ps : α → List Res) (Q : α → Prop) : Res where
  at' W F := ∃ x, Parts W (ps x) F ∧ Q x
  lt := by rintro W F ⟨x, h, _⟩; exact h.lt
  only := by rintro W W' F G ⟨x, h, hq⟩ ho hd; exact ⟨x, Parts.only ho h hd, hq⟩

theorem Sep.open {α : Type} {ps : α → List Res} {Q : α → Prop} {w W : World} {l : List Res} (h : Sep w W (exRes ps Q :: l)) : ∃ x, Sep w W (ps x ++ l) ∧ Q x := by
  obtain ⟨F, ⟨F1, F2, rfl, ⟨x, h1, hq⟩, h2, h3⟩, h4, h5⟩ := h
  exact ⟨x, ⟨F1 ++ F2, Parts.append.2 ⟨F1, F2, rfl, h1, h2, h3⟩, h4, h5⟩, hq⟩

theorem Sep.close {α : Type} {ps : α → List Res} {Q : α → Prop} {w W : World} {l : List Res} (x : α) (h : Sep w W (ps x ++ l)) (hq : Q x) : Sep w W (exRes ps Q :: l) := by
  obtain ⟨F, h1, h4, h5⟩ := h
  obtain ⟨F1, F2, rfl, h1, h2, h3⟩ := Parts.append.1 h1
  exact ⟨F1 ++ F2, ⟨F1, F2, rfl, ⟨x, h1, hq⟩, h2, h3⟩, h4, h5⟩

/-- A store into a row, at a cell that it has. -/
theorem Sep.rowStore {w W : World} {e : TypeId} {size : Nat} {g n q : Nat} {xs : List Value} {l : List Res} (h : Sep w W (rowRes e size (.slice (some ⟨g, 0, none⟩) n q) n xs :: l)) (i : Nat) (v : Value) :
    Sep w (W.setCell ⟨g, i, none⟩ v) (rowRes e size (.slice (some ⟨g, 0, none⟩) n q) n (xs.set i v) :: l) := by
  refine h.turn ?_
  rintro F ⟨ho, rfl⟩
  refine ⟨_, ⟨⟨by rw [List.length_set]; exact ho.1, .inr ?_⟩, rfl⟩, (Only.cellAt W g i v).mono (by simp [Value.ownBlock]), Within.refl _ _⟩
  rcases ho.2 with ⟨h1, _⟩ | ⟨g', cap, cur, hv, hb, hg, h1, h2, h3, h4⟩
  · cases h1
  · simp only [Value.slice.injEq, Option.some.injEq, Addr.mk.injEq, and_true, true_and] at hv
    obtain ⟨rfl, rfl⟩ := hv
    refine ⟨g, q, _, rfl, hb, heap_setCell_self hg, h1, h2, by simpa using h3, ?_⟩
    rw [← h4]
    simp only [Array.toList_setIfInBounds]
    rw [List.take_set]

/-- A row of at least one element: its block. -/
theorem Sep.rowAt {w W : World} {e : TypeId} {size : Nat} {p : Option Addr} {n q : Nat} {xs : List Value} {l : List Res} (h : Sep w W (rowRes e size (.slice p n q) n xs :: l)) (hx : 0 < xs.length) :
    ∃ g, p = some ⟨g, 0, none⟩ := by
  obtain ⟨g, e, _⟩ := ownsRow_cell_of h.row (j := 0) (List.getElem?_eq_getElem hx)
  exact ⟨g, e⟩
theorem Sep.rowCell {w W : World} {e : TypeId} {size : Nat} {g n q : Nat} {xs : List Value} {l : List Res} (h : Sep w W (rowRes e size (.slice (some ⟨g, 0, none⟩) n q) n xs :: l)) {j : Nat} {u : Value} (hu : xs[j]? = some u) :
    W.cell? ⟨g, j, none⟩ = some u ∧ W.frozen? ⟨g, j, none⟩ = false := by
  obtain ⟨g', e, h1, h2⟩ := ownsRow_cell_of h.row hu
  simp only [Option.some.injEq, Addr.mk.injEq, and_true] at e
  subst e
  exact ⟨h1, h2⟩

/-- 'append(row, x)' of one element in a block that is known whole, as one step of a region that draws its order. -/
theorem step_append_sep {P : Program} {w W : World} {l : List Res} {cs : Array Value} {e : TypeId} {fz : Nat × Nat} {ops : Array Oper} {o : Oper} {a : Act} {K : Act → World → Prop} {Q : Exit → Act → World → Prop} {E : Prop} (hgd : o.guard = none) (s x : Operand) (t : TypeId)
    (ho : o.op = .call { callee := .builtin .append, args := #[s, x], argTypes := #[t, t] })
    (i : TypeInfo) (z : Value) (size bytes : Nat) (ht : P.underlying t = some (.slice e)) (hi : P.info? e = some i ∧ i.zero = some z ∧ i.size = size ∧ i.bytes = bytes) (hzs : z.cells.size = size) (hsz : 0 < size)
    (v : Value) (n : Nat) (xs : List Value) (hs : a.eval s = v)
    {B : Nat} (hx : a.eval x = .slice (some ⟨B, 0, none⟩) 1 1) (hB : W.heap[B]? = some (.cells cs e fz)) (hl : cs.size = size) (h1 : ∀ u ∈ cs.toList, u.oneCell' = true)
    (hsep : Sep w W (rowRes e size v n xs :: l))
    (h63 : n + 1 ≤ maxLen) (hbytes : (n + 1) * bytes ≤ 140737488355328)
    (h : ∀ p q w', Sep w w' (rowRes e size (.slice p (n + 1) q) (n + 1) (xs ++ cs.toList) :: l) → K (a.put o.dst (.slice p (n + 1) q)) w') :
    if Region.wanted o (yielded ops a.tmps) = true then Oper.wp P o a W K Q else E := by
  have hw : Region.wanted o (yielded ops a.tmps) = true := by simp [Region.wanted, hgd]
  rw [if_pos hw]
  refine wp_append_mine W s x t ho e i z size bytes ht hi.1 hi.2.1 hi.2.2.1 hi.2.2.2 hzs hsz v n xs hs hsep.row ⟨B, 0, none⟩ 1 1 cs.toList hx (by simp [hl]) ?_ h1 h63 hbytes ?_
  · intro j u hu
    have hadd : (⟨B, 0, none⟩ : Addr).add j = ⟨B, j, none⟩ := by unfold Addr.add; split <;> simp_all
    rw [hadd]
    exact cell_of_block hB j (by simpa using hu)
  · intro p q w' h2 h3 h4
    refine h p q w' (hsep.turn ?_)
    rintro F ⟨_, rfl⟩
    exact ⟨_, ⟨h2, rfl⟩, h3, h4⟩

end Go.Proofs.YtipfjjcokajjjaaDoor
