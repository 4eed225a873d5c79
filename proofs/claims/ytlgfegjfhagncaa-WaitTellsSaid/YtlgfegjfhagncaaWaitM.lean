/-
  What is said here: edges, who reaches whom ('Path'), who lies on a circle; lists by rising numbers; with no program in sight.
  No condition.
-/
import Derived.Test.YtlgfegjfhagncaaKit
namespace Go.Proofs.Ytlgfegjfhagncaa

abbrev Edges := List (Int × Int)

/-- A way of one edge or more. -/
inductive Path (l : Edges) : Int → Int → Prop
  | one {a b : Int} : (a, b) ∈ l → Path l a b
  | more {a b c : Int} : Path l a b → (b, c) ∈ l → Path l a c

theorem Path.trans {l : Edges} {a b c : Int} (h : Path l a b) (k : Path l b c) : Path l a c := by
  induction k with
  | one e => exact .more h e
  | more _ e ih => exact .more ih e

theorem Path.mono {l l' : Edges} (hs : ∀ e ∈ l, e ∈ l') {a b : Int} (h : Path l a b) : Path l' a b := by
  induction h with
  | one e => exact .one (hs _ e)
  | more _ e ih => exact .more ih (hs _ e)

/-- A way begins with an edge. -/
theorem Path.first {l : Edges} {a b : Int} (h : Path l a b) : ∃ c, (a, c) ∈ l := by
  induction h with
  | one e => exact ⟨_, e⟩
  | more _ _ ih => exact ih

/-- By rising numbers, each once. -/
def Rising (xs : List Int) : Prop := xs.Pairwise (· < ·)

theorem Rising.ext : ∀ {xs ys : List Int}, Rising xs → Rising ys → (∀ y, y ∈ xs ↔ y ∈ ys) → xs = ys
  | [], [], _, _, _ => rfl
  | [], y :: ys, _, _, h => by have := (h y).2 (by simp); simp at this
  | x :: xs, [], _, _, h => by have := (h x).1 (by simp); simp at this
  | x :: xs, y :: ys, hx, hy, h => by
    have hx1 := (List.pairwise_cons.1 hx)
    have hy1 := (List.pairwise_cons.1 hy)
    have e : x = y := by
      rcases List.mem_cons.1 ((h x).1 (by simp)) with e | e
      · exact e
      · rcases List.mem_cons.1 ((h y).2 (by simp)) with e' | e'
        · exact e'.symm
        · have := hy1.1 x e
          have := hx1.1 y e'
          omega
    subst e
    rw [Rising.ext hx1.2 hy1.2]
    intro z
    constructor
    · intro hz
      rcases List.mem_cons.1 ((h z).1 (List.mem_cons_of_mem _ hz)) with e | e
      · subst e; have := hx1.1 z hz; omega
      · exact e
    · intro hz
      rcases List.mem_cons.1 ((h z).2 (List.mem_cons_of_mem _ hz)) with e | e
      · subst e; have := hy1.1 z hz; omega
      · exact e

/-- A number at its place, once. -/
def putI : List Int → Int → List Int
  | [], n => [n]
  | x :: t, n => if x < n then x :: putI t n else if x = n then x :: t else n :: x :: t

theorem mem_putI (xs : List Int) (n y : Int) : y ∈ putI xs n ↔ y = n ∨ y ∈ xs := by
  induction xs with
  | nil => simp [putI]
  | cons x t ih =>
    simp only [putI]
    split
    · simp only [List.mem_cons, ih]
      constructor
      · rintro (h | h | h)
        · exact .inr (.inl h)
        · exact .inl h
        · exact .inr (.inr h)
      · rintro (h | h | h)
        · exact .inr (.inl h)
        · exact .inl h
        · exact .inr (.inr h)
    · split
      · rename_i e
        subst e
        simp only [List.mem_cons]
        constructor
        · exact fun h => .inr h
        · rintro (h | h)
          · exact .inl h
          · exact h
      · simp only [List.mem_cons]

theorem Rising.put {xs : List Int} (h : Rising xs) (n : Int) : Rising (putI xs n) := by
  induction xs with
  | nil => exact List.pairwise_singleton _ _
  | cons x t ih =>
    have h1 := List.pairwise_cons.1 h
    simp only [putI]
    split
    · rename_i hlt
      refine List.pairwise_cons.2 ⟨?_, ih h1.2⟩
      intro y hy
      rcases (mem_putI t n y).1 hy with rfl | hy
      · exact hlt
      · exact h1.1 y hy
    · split
      · exact h
      · refine List.pairwise_cons.2 ⟨?_, h⟩
        intro y hy
        rcases List.mem_cons.1 hy with rfl | hy
        · omega
        · have := h1.1 y hy; omega

/-- xs is whom one reaches. -/
def IsReach (l : Edges) (a : Int) (xs : List Int) : Prop := Rising xs ∧ ∀ y, y ∈ xs ↔ Path l a y
/-- xs is who lies on a circle. -/
def IsCircle (l : Edges) (xs : List Int) : Prop := Rising xs ∧ ∀ y, y ∈ xs ↔ Path l y y

theorem IsReach.ext {l l' : Edges} (hs : ∀ e, e ∈ l ↔ e ∈ l') {a : Int} {xs ys : List Int} (h : IsReach l a xs) (k : IsReach l' a ys) : xs = ys :=
  Rising.ext h.1 k.1 fun y => (h.2 y).trans ((⟨Path.mono fun e he => (hs e).1 he, Path.mono fun e he => (hs e).2 he⟩ : Path l a y ↔ Path l' a y).trans (k.2 y).symm)
theorem IsCircle.ext {l l' : Edges} (hs : ∀ e, e ∈ l ↔ e ∈ l') {xs ys : List Int} (h : IsCircle l xs) (k : IsCircle l' ys) : xs = ys :=
  Rising.ext h.1 k.1 fun y => (h.2 y).trans ((⟨Path.mono fun e he => (hs e).1 he, Path.mono fun e he => (hs e).2 he⟩ : Path l y y ↔ Path l' y y).trans (k.2 y).symm)

/-- What is closed under edges has all that is reached. -/
theorem closed_reach {l : Edges} {a : Int} {out : List Int} (h : ∀ e ∈ l, (e.1 = a ∨ e.1 ∈ out) → e.2 ∈ out) {y : Int} (hp : Path l a y) : y ∈ out := by
  induction hp with
  | one e => exact h _ e (.inl rfl)
  | more _ e ih => exact h _ e (.inr ih)

/-- How many edges lead out of a list. -/
def left (l : Edges) (out : List Int) : Nat := l.countP fun e => decide (e.2 ∉ out)

theorem left_le {l : Edges} {out out' : List Int} (h : ∀ y ∈ out, y ∈ out') : left l out' ≤ left l out :=
  List.countP_mono_left fun e _ he => by
    simp only [decide_eq_true_eq] at he ⊢
    exact fun q => he (h _ q)

theorem left_put {l : Edges} {out out' : List Int} {e : Int × Int} (he : e ∈ l) (hn : e.2 ∉ out) (hi : e.2 ∈ out') (h : ∀ y ∈ out, y ∈ out') : left l out' < left l out := by
  induction l with
  | nil => simp at he
  | cons x t ih =>
    unfold left at ih ⊢
    rw [List.countP_cons, List.countP_cons]
    rcases List.mem_cons.1 he with rfl | he
    · have h1 := left_le (l := t) h
      unfold left at h1
      simp only [hn, hi, not_true_eq_false, not_false_eq_true, decide_true, decide_false, Bool.false_eq_true, if_true, if_false]
      omega
    · have h1 := ih he
      by_cases q : x.2 ∈ out
      · simp only [q, h _ q, not_true_eq_false, decide_false, Bool.false_eq_true, if_false]
        exact h1
      · by_cases q' : x.2 ∈ out'
        · simp only [q, q', not_true_eq_false, not_false_eq_true, decide_true, decide_false, Bool.false_eq_true, if_true, if_false]
          omega
        · simp only [q, q', not_false_eq_true, decide_true, if_true]
          omega

/-- To whom edges lead from one, in their order. -/
def leads (l : Edges) (a : Int) : List Int := (l.filter fun e => e.1 == a).map (·.2)

theorem mem_leads (l : Edges) (a b : Int) : b ∈ leads l a ↔ (a, b) ∈ l := by
  unfold leads
  simp only [List.mem_map, List.mem_filter, beq_iff_eq]
  constructor
  · rintro ⟨⟨x, y⟩, ⟨h1, rfl⟩, rfl⟩; exact h1
  · intro h; exact ⟨(a, b), ⟨h, rfl⟩, rfl⟩

/-- The walk along edges: met is reached; what is not to do is done. -/
structure Going (l : Edges) (a : Int) (met todo : List Int) : Prop where
  path : ∀ x ∈ met, Path l a x
  ours : ∀ x ∈ todo, x = a ∨ x ∈ met
  done : ∀ x, x = a ∨ x ∈ met → x ∈ todo ∨ ∀ y ∈ leads l x, y ∈ met

theorem Going.start (l : Edges) (a : Int) : Going l a [] [a] :=
  ⟨by simp, by simp, fun x h => by
    rcases h with rfl | h
    · exact .inl (by simp)
    · simp at h⟩

/-- Where nothing is to do any more, all that is reached was met. -/
theorem Going.all {l : Edges} {a : Int} {met : List Int} (h : Going l a met []) (y : Int) : y ∈ met ↔ Path l a y := by
  refine ⟨h.path y, closed_reach fun e he hx => ?_⟩
  rcases h.done e.1 hx with q | q
  · simp at q
  · exact q e.2 ((mem_leads l e.1 e.2).2 he)

/-- One node of what is to do, its edges gone through up to some: the rest. -/
structure GoingAt (l : Edges) (a x : Int) (ys : List Int) (met todo : List Int) : Prop where
  path : ∀ y ∈ met, Path l a y
  self : x = a ∨ x ∈ met
  ours : ∀ y ∈ todo, y = a ∨ y ∈ met
  done : ∀ z, z = a ∨ z ∈ met → z ∈ todo ∨ (z = x ∧ ∀ y ∈ leads l x, y ∈ met ∨ y ∈ ys) ∨ ∀ y ∈ leads l z, y ∈ met
  rest : ∀ y ∈ ys, y ∈ leads l x

/-- The last of what is to do is taken. -/
theorem Going.take {l : Edges} {a x : Int} {met todo : List Int} (h : Going l a met (todo ++ [x])) : GoingAt l a x (leads l x) met todo := by
  refine ⟨h.path, h.ours x (by simp), fun y hy => h.ours y (by simp [hy]), fun z hz => ?_, fun y hy => hy⟩
  rcases h.done z hz with q | q
  · rcases List.mem_append.1 q with q | q
    · exact .inl q
    · simp at q
      exact .inr (.inl ⟨q, fun y hy => .inr hy⟩)
  · exact .inr (.inr q)

/-- An edge to one that was met. -/
theorem GoingAt.skip {l : Edges} {a x y : Int} {ys met todo : List Int} (h : GoingAt l a x (y :: ys) met todo) (hy : y ∈ met) : GoingAt l a x ys met todo := by
  refine ⟨h.path, h.self, h.ours, fun z hz => ?_, fun z hz => h.rest z (by simp [hz])⟩
  rcases h.done z hz with q | ⟨e, q⟩ | q
  · exact .inl q
  · refine .inr (.inl ⟨e, fun w hw => ?_⟩)
    rcases q w hw with r | r
    · exact .inl r
    · rcases List.mem_cons.1 r with rfl | r
      · exact .inl hy
      · exact .inr r
  · exact .inr (.inr q)

/-- An edge to a new one: met, and to do. -/
theorem GoingAt.meet {l : Edges} {a x y : Int} {ys met met' todo : List Int} (h : GoingAt l a x (y :: ys) met todo) (hm : ∀ z, z ∈ met' ↔ z = y ∨ z ∈ met) : GoingAt l a x ys met' (todo ++ [y]) := by
  have hy : (x, y) ∈ l := (mem_leads l x y).1 (h.rest y (by simp))
  have hp : Path l a y := by
    rcases h.self with rfl | q
    · exact .one hy
    · exact .more (h.path x q) hy
  refine ⟨fun z hz => ?_, ?_, fun z hz => ?_, fun z hz => ?_, fun z hz => h.rest z (by simp [hz])⟩
  · rcases (hm z).1 hz with rfl | q
    · exact hp
    · exact h.path z q
  · rcases h.self with q | q
    · exact .inl q
    · exact .inr ((hm x).2 (.inr q))
  · rcases List.mem_append.1 hz with q | q
    · rcases h.ours z q with r | r
      · exact .inl r
      · exact .inr ((hm z).2 (.inr r))
    · simp at q
      exact .inr ((hm z).2 (.inl q))
  · have key : z = a ∨ z ∈ met → z ∈ todo ++ [y] ∨ (z = x ∧ ∀ w ∈ leads l x, w ∈ met' ∨ w ∈ ys) ∨ ∀ w ∈ leads l z, w ∈ met' := by
      intro hz
      rcases h.done z hz with q | ⟨e, q⟩ | q
      · exact .inl (by simp [q])
      · refine .inr (.inl ⟨e, fun w hw => ?_⟩)
        rcases q w hw with r | r
        · exact .inl ((hm w).2 (.inr r))
        · rcases List.mem_cons.1 r with r | r
          · exact .inl ((hm w).2 (.inl r))
          · exact .inr r
      · exact .inr (.inr fun w hw => (hm w).2 (.inr (q w hw)))
    rcases hz with hz | hz
    · exact key (.inl hz)
    · rcases (hm z).1 hz with rfl | hz
      · exact .inl (by simp)
      · exact key (.inr hz)

/-- All its edges were gone through. -/
theorem GoingAt.end {l : Edges} {a x : Int} {met todo : List Int} (h : GoingAt l a x [] met todo) : Going l a met todo := by
  refine ⟨h.path, h.ours, fun z hz => ?_⟩
  rcases h.done z hz with q | ⟨rfl, q⟩ | q
  · exact .inl q
  · refine .inr fun y hy => ?_
    rcases q y hy with r | r
    · exact r
    · simp at r
  · exact .inr q

/-- The edge is one of the list: the measure falls where a new one is met. -/
theorem GoingAt.left {l : Edges} {a x y : Int} {ys met met' todo : List Int} (h : GoingAt l a x (y :: ys) met todo) (hn : y ∉ met) (hm : ∀ z, z ∈ met' ↔ z = y ∨ z ∈ met) : left l met' < Go.Proofs.Ytlgfegjfhagncaa.left l met :=
  left_put ((mem_leads l x y).1 (h.rest y (by simp))) hn ((hm y).2 (.inl rfl)) fun z hz => (hm z).2 (.inr hz)

/-- Without a node's edges it lies on no circle, and nobody new does. -/
theorem circle_less {l : Edges} {v y : Int} (h : Path (l.filter fun e => e.1 != v) y y) : Path l y y ∧ y ≠ v := by
  refine ⟨h.mono fun e he => (List.mem_filter.1 he).1, ?_⟩
  rintro rfl
  obtain ⟨c, hc⟩ := h.first
  have := (List.mem_filter.1 hc).2
  simp at this

/-- Fewer, where one is left out and nothing is new. -/
theorem Rising.fewer {xs ys : List Int} (hx : Rising xs) (hs : ∀ y ∈ xs, y ∈ ys) {v : Int} (hv : v ∈ ys) (hn : v ∉ xs) : xs.length < ys.length := by
  have hnd : (v :: xs).Nodup := by
    refine List.nodup_cons.2 ⟨hn, ?_⟩
    exact hx.imp fun h => by omega
  have hsub : (v :: xs) ⊆ ys := by
    intro y hy
    rcases List.mem_cons.1 hy with rfl | hy
    · exact hv
    · exact hs y hy
  have := List.Nodup.length_le_of_subset hnd hsub
  rw [List.length_cons] at this
  omega

/-- A victim's edges are left out: there are fewer edges, and fewer on circles. -/
theorem victim_fewer {l : Edges} {v : Int} {xs ys : List Int} (hx : IsCircle (l.filter fun e => e.1 != v) xs) (hy : IsCircle l ys) (hv : v ∈ ys) : xs.length < ys.length ∧ (l.filter fun e => e.1 != v).length < l.length := by
  constructor
  · refine hx.1.fewer (fun y h => ?_) hv (fun h => ?_)
    · exact (hy.2 y).2 (circle_less ((hx.2 y).1 h)).1
    · exact (circle_less ((hx.2 v).1 h)).2 rfl
  · obtain ⟨c, hc⟩ := ((hy.2 v).1 hv).first
    rcases Nat.lt_or_ge (l.filter fun e => e.1 != v).length l.length with h | h
    · exact h
    · have e := List.filter_eq_self.1 (List.filter_sublist.eq_of_length_le h) (v, c) hc
      simp at e

theorem circle_none {xs : List Int} (h : IsCircle [] xs) : xs = [] := by
  cases xs with
  | nil => rfl
  | cons x t =>
    obtain ⟨c, hc⟩ := ((h.2 x).1 (by simp)).first
    simp at hc

theorem putI_has (xs : List Int) (n : Int) : ∀ k, (∀ x ∈ xs.take k, x < n) → xs[k]? = some n → putI xs n = xs := by
  induction xs with
  | nil => intro k _ h; simp at h
  | cons x t ih =>
    intro k h1 h2
    cases k with
    | zero =>
      simp at h2
      subst h2
      simp [putI]
    | succ k =>
      have hx : x < n := h1 x (by simp)
      have := ih k (fun y hy => h1 y (by simp [hy])) (by simpa using h2)
      simp only [putI, if_pos hx, this]

theorem putI_new (xs : List Int) (n : Int) : ∀ k, k ≤ xs.length → (∀ x ∈ xs.take k, x < n) → (∀ x, xs[k]? = some x → n < x) → putI xs n = xs.take k ++ n :: xs.drop k := by
  induction xs with
  | nil => intro k hk _ _; simp at hk; subst hk; rfl
  | cons x t ih =>
    intro k hk h1 h2
    cases k with
    | zero =>
      have hx := h2 x (by simp)
      simp only [putI]
      rw [if_neg (by omega), if_neg (by omega)]
      rfl
    | succ k =>
      have hx : x < n := h1 x (by simp)
      have := ih k (by simpa using hk) (fun y hy => h1 y (by simp [hy])) (fun y hy => h2 y (by simpa using hy))
      simp only [putI, if_pos hx, this]
      simp

end Go.Proofs.Ytlgfegjfhagncaa
