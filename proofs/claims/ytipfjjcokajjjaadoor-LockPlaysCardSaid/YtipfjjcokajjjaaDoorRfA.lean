/-
  What is proved here: the memory of the document's table of locks: slices of holders that nobody writes any more (heldsRes), the table (refRes).
  No condition.
-/
import Derived.Test.YtipfjjcokajjjaaDoorLkY
import Derived.Deep.LoopGhost
import Derived.Deep.RegionLaw
set_option linter.unusedVariables false
set_option linter.unusedSimpArgs false
namespace Go.Proofs.YtipfjjcokajjjaaDoor
open Go.RowKit

/-- A slice of holders, in a block of F. -/
def HeldIn (W : World) (F : List Nat) (v : Value) (l : HM) : Prop :=
  (v = .slice none 0 0 ∧ l = []) ∨ ∃ g o c cur, v = .slice (some ⟨g, o, none⟩) l.length c ∧ g ∈ F ∧ l.length ≤ c ∧ c ≤ maxLen ∧ W.heap[g]? = some (.cells cur 76 (0, 0)) ∧ ∀ (j : Nat) (u : Value), (wCells l)[j]? = some u → cur[o + j]? = some u

/-- Slices of holders that nobody writes any more. -/
def heldsRes (vs : List (Value × HM)) : Res where
  at' W F := (∀ k ∈ F, k < W.heap.size) ∧ ∀ x ∈ vs, HeldIn W F x.1 x.2
  lt h := h.1
  only := by
    rintro W W' F G ⟨h1, h2⟩ ho hd
    refine ⟨fun k hk => by have := h1 k hk; have := ho.size; omega, fun x hx => ?_⟩
    rcases h2 x hx with h | ⟨g, o, c, cur, a, b, d, e, f, i⟩
    · exact .inl h
    · exact .inr ⟨g, o, c, cur, a, b, d, e, ho.keeps f (hd g b), i⟩

def HeldAt (W : World) (v : Value) (l : HM) : Prop :=
  (v = .slice none 0 0 ∧ l = []) ∨ ∃ g o c, v = .slice (some ⟨g, o, none⟩) l.length c ∧ g < W.heap.size ∧ l.length ≤ c ∧ c ≤ maxLen ∧ ∀ (j : Nat) (u : Value), (wCells l)[j]? = some u → W.cell? ⟨g, o + j, none⟩ = some u

theorem HeldIn.at' {W : World} {F : List Nat} {v : Value} {l : HM} (h : HeldIn W F v l) : HeldAt W v l := by
  rcases h with h | ⟨g, o, c, cur, a, b, d, e, f, i⟩
  · exact .inl h
  · exact .inr ⟨g, o, c, a, lt_of_block f, d, e, fun j u hu => cell_of_block f _ (i j u hu)⟩
theorem HeldAt.only {W W' : World} {v : Value} {l : HM} (h : HeldAt W v l) (ho : Only [] W W') : HeldAt W' v l := by
  rcases h with h | ⟨g, o, c, a, b, d, e, f⟩
  · exact .inl h
  · exact .inr ⟨g, o, c, a, by have := ho.size; omega, d, e, fun j u hu => by rw [ho.cell (p := ⟨g, o + j, none⟩) b (by simp)]; exact f j u hu⟩
theorem HeldAt.slice {W : World} {v : Value} {l : HM} (h : HeldAt W v l) : ∃ p c, v = .slice p l.length c := by
  rcases h with ⟨rfl, rfl⟩ | ⟨g, o, c, a, _⟩
  · exact ⟨_, _, rfl⟩
  · exact ⟨_, _, a⟩

theorem Sep.helds {w W : World} {L : List Res} {vs : List (Value × HM)} (h : Sep w W (heldsRes vs :: L)) {v : Value} {q : HM} (hx : (v, q) ∈ vs) : HeldAt W v q := by
  obtain ⟨F, ⟨_, h⟩, _⟩ := h.first
  exact (h _ hx).at'
theorem Sep.heldsSub {w W : World} {L : List Res} {vs vs' : List (Value × HM)} (h : Sep w W (heldsRes vs :: L)) (hs : ∀ x ∈ vs', x ∈ vs) : Sep w W (heldsRes vs' :: L) := by
  refine h.turn ?_
  rintro F ⟨h1, h2⟩
  exact ⟨F, ⟨h1, fun x hx => h2 x (hs x hx)⟩, Only.refl _ _, Within.refl _ _⟩
theorem Sep.heldsNil {w W : World} {L : List Res} (h : Sep w W L) : Sep w W (heldsRes [] :: L) :=
  h.made (F := []) ⟨by simp, by simp⟩ (Only.refl _ _) (Within.refl _ _)
/-- A row joins those that are not written any more. -/
theorem Sep.heldsJoin {w W : World} {L : List Res} {vs : List (Value × HM)} {v : Value} {n : Nat} {l : HM} (h : Sep w W (rowRes 76 2 v n (wCells l) :: heldsRes vs :: L)) (hn : n = l.length) : Sep w W (heldsRes ((v, l) :: vs) :: L) := by
  subst hn
  obtain ⟨F, ⟨F1, F2, rfl, ⟨h1, rfl⟩, ⟨F3, F4, rfl, ⟨h5, h6⟩, h7, h8⟩, h3⟩, h4, h9⟩ := h
  refine ⟨(v.ownBlock.toList ++ F3) ++ F4, ⟨v.ownBlock.toList ++ F3, F4, rfl, ⟨?_, ?_⟩, h7, ?_⟩, h4, ?_⟩
  · intro k hk
    rcases List.mem_append.1 hk with q | q
    · exact (h1.lt k (by simpa using q)).2
    · exact h5 k q
  · intro x hx
    rcases List.mem_cons.1 hx with rfl | hx
    · rcases h1.2 with ⟨a, b⟩ | ⟨g, cap, cur, hv, _, hg, hnc, hcm, _, hcur⟩
      · exact .inl ⟨a, List.eq_nil_of_length_eq_zero b⟩
      · refine .inr ⟨g, 0, cap, cur, hv, by subst hv; simp [Value.ownBlock], hnc, hcm, hg, fun j u hu => ?_⟩
        have hu : (wCells l)[j]? = some u := hu
        rw [← hcur, List.getElem?_take] at hu
        split at hu
        · rw [Nat.zero_add, ← Array.getElem?_toList]; exact hu
        · cases hu
    · rcases h6 x hx with h | ⟨g, o, c, cur, a, b, d, e, f, i⟩
      · exact .inl h
      · exact .inr ⟨g, o, c, cur, a, List.mem_append_right _ b, d, e, f, i⟩
  · intro k hk q
    rcases List.mem_append.1 hk with r | r
    · exact h3 k r (List.mem_append_right _ q)
    · exact h8 k r q
  · intro k hk
    exact h9 k (by simpa [List.append_assoc] using hk)
/-- All but the first. -/
theorem Sep.heldsTail {w W : World} {L : List Res} {vs : List (Value × HM)} {g o c : Nat} {y : Int × Int} {z : HM} (h : Sep w W (heldsRes vs :: L)) (hx : (.slice (some ⟨g, o, none⟩) (z.length + 1) c, y :: z) ∈ vs) {v : Value} (hv : v = .slice (some ⟨g, if c = 1 then o else o + 2, none⟩) z.length (c - 1)) : Sep w W (heldsRes ((v, z) :: vs) :: L) := by
  refine h.turn ?_
  rintro F ⟨h1, h2⟩
  refine ⟨F, ⟨h1, fun x hx' => ?_⟩, Only.refl _ _, Within.refl _ _⟩
  rcases List.mem_cons.1 hx' with rfl | hx'
  · rcases h2 _ hx with ⟨a, _⟩ | ⟨g', o', c', cur, a, b, d, e, f, i⟩
    · cases a
    · simp only [Value.slice.injEq, Option.some.injEq, Addr.mk.injEq] at a
      obtain ⟨⟨rfl, rfl, _⟩, _, rfl⟩ := a
      have d : z.length + 1 ≤ c := d
      refine .inr ⟨g, _, c - 1, cur, hv, b, by show z.length ≤ c - 1; omega, by omega, f, fun j u hu => ?_⟩
      have hj := (List.getElem?_eq_some_iff.1 hu).1
      have hj : j < (wCells z).length := hj
      rw [wCells_len] at hj
      rw [if_neg (by omega), Nat.add_assoc, Nat.add_comm 2 j]
      exact i (j + 2) u hu
  · exact h2 x hx'

/-! The table. -/

abbrev RTP := List (Th × Value × Value)
def tCells (tv : RTP) : List Value := tv.flatMap (fun y => [.string y.1.name, y.2.1, y.2.2])
def tHelds (tv : RTP) : List (Value × HM) := tv.flatMap (fun y => [(y.2.1, y.1.has), (y.2.2, y.1.q)])
def refParts (b : Nat) (x : Value × RTP) : List Res :=
  [blkRes b (.cells #[x.1] 28 (0, 0)), rowRes 71 3 x.1 x.2.length (tCells x.2), heldsRes (tHelds x.2)]
def refRes (b : Nat) (t : Tab) : Res := exRes (refParts b) (fun x => x.2.map Prod.fst = t)

theorem tCells_cons (y : Th × Value × Value) (tv : RTP) : tCells (y :: tv) = .string y.1.name :: y.2.1 :: y.2.2 :: tCells tv := rfl
theorem tCells_app (a b : RTP) : tCells (a ++ b) = tCells a ++ tCells b := by unfold tCells; rw [List.flatMap_append]
theorem tCells_len (tv : RTP) : (tCells tv).length = tv.length * 3 := by
  induction tv with
  | nil => rfl
  | cons x q ih => rw [tCells_cons, List.length_cons, List.length_cons, List.length_cons, ih, List.length_cons]; omega
theorem tCells_at {tv : RTP} {k : Nat} {y : Th × Value × Value} (h : tv[k]? = some y) : (tCells tv)[k * 3]? = some (.string y.1.name) ∧ (tCells tv)[k * 3 + 1]? = some y.2.1 ∧ (tCells tv)[k * 3 + 2]? = some y.2.2 := by
  induction tv generalizing k with
  | nil => simp at h
  | cons x q ih =>
    rw [tCells_cons]
    cases k with
    | zero => simp at h; subst h; exact ⟨rfl, rfl, rfl⟩
    | succ k =>
      simp only [List.getElem?_cons_succ] at h
      obtain ⟨h1, h2, h3⟩ := ih h
      rw [show (k + 1) * 3 = k * 3 + 3 by omega]
      exact ⟨h1, h2, h3⟩
theorem tHelds_at {tv : RTP} {k : Nat} {y : Th × Value × Value} (h : tv[k]? = some y) : (y.2.1, y.1.has) ∈ tHelds tv ∧ (y.2.2, y.1.q) ∈ tHelds tv := by
  have := List.mem_of_getElem? h
  constructor <;> exact List.mem_flatMap.2 ⟨y, this, by simp⟩
theorem tHelds_app (a b : RTP) : tHelds (a ++ b) = tHelds a ++ tHelds b := by unfold tHelds; rw [List.flatMap_append]
theorem tv_at {tv : RTP} {t : Tab} (ht : tv.map Prod.fst = t) {k : Nat} {x : Th} (h : t[k]? = some x) : ∃ vh vq, tv[k]? = some (x, vh, vq) := by
  subst ht
  rw [List.getElem?_map, Option.map_eq_some_iff] at h
  obtain ⟨⟨x', vh, vq⟩, h1, rfl⟩ := h
  exact ⟨vh, vq, h1⟩

end Go.Proofs.YtipfjjcokajjjaaDoor
