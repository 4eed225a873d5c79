/-
  What is proved here: a small logic of separate parts of memory, for any program: a part ('Res') lies in some blocks; parts that lie in separate blocks ('Sep'); a call that turns one part leaves the others.
  No condition: each lemma names its own.
-/
import Derived.Test.YtipfjjcokajjjaaDoorKit
namespace Go.Proofs.YtipfjjcokajjjaaDoor
open Go.RowKit

/-- A part of memory: what is said of the blocks F that it takes; a call that leaves these blocks leaves what is said. -/
structure Res where
  at' : World → List Nat → Prop
  lt : ∀ {W F}, at' W F → ∀ k ∈ F, k < W.heap.size
  only : ∀ {W W' F G}, at' W F → Only G W W' → (∀ k ∈ F, k ∉ G) → at' W' F

/-- One block, known whole. -/
def blkRes (g : Nat) (o : Obj) : Res where
  at' W F := F = [g] ∧ W.heap[g]? = some o
  lt := by rintro W F ⟨rfl, h⟩ k hk; simp at hk; subst hk; exact lt_of_block h
  only := by rintro W W' F G ⟨rfl, h⟩ ho hd; exact ⟨rfl, ho.keeps h (hd g (by simp))⟩

/-- Parts that lie in separate blocks; F: all their blocks. -/
def Parts (W : World) : List Res → List Nat → Prop
  | [], F => F = []
  | R :: l, F => ∃ F1 F2, F = F1 ++ F2 ∧ R.at' W F1 ∧ Parts W l F2 ∧ ∀ k ∈ F1, k ∉ F2

theorem Parts.lt {W : World} : ∀ {l : List Res} {F : List Nat}, Parts W l F → ∀ k ∈ F, k < W.heap.size
  | [], F, h => by rw [show F = [] from h]; simp
  | R :: l, F, ⟨F1, F2, e, h1, h2, _⟩ => by
    subst e
    intro k hk
    rcases List.mem_append.1 hk with q | q
    · exact R.lt h1 k q
    · exact Parts.lt h2 k q

theorem Parts.only {W W' : World} {G : List Nat} (ho : Only G W W') : ∀ {l : List Res} {F : List Nat}, Parts W l F → (∀ k ∈ F, k ∉ G) → Parts W' l F
  | [], F, h, _ => h
  | R :: l, F, ⟨F1, F2, e, h1, h2, h3⟩, hd => by
    subst e
    exact ⟨F1, F2, rfl, R.only h1 ho (fun k hk => hd k (List.mem_append_left _ hk)), Parts.only ho h2 (fun k hk => hd k (List.mem_append_right _ hk)), h3⟩

theorem Parts.perm {W : World} {l l' : List Res} (hp : l.Perm l') : ∀ {F : List Nat}, Parts W l F → ∃ F', Parts W l' F' ∧ ∀ k, k ∈ F' ↔ k ∈ F := by
  induction hp with
  | nil => intro F h; exact ⟨F, h, fun _ => Iff.rfl⟩
  | cons R _ ih =>
    rintro F ⟨F1, F2, rfl, h1, h2, h3⟩
    obtain ⟨F', h', hm⟩ := ih h2
    refine ⟨F1 ++ F', ⟨F1, F', rfl, h1, h', fun k hk q => h3 k hk ((hm k).1 q)⟩, fun k => ?_⟩
    simp [hm k]
  | swap R S l =>
    rintro F ⟨F1, F2, rfl, h1, ⟨F3, F4, rfl, h3, h4, h5⟩, h6⟩
    refine ⟨F3 ++ (F1 ++ F4), ⟨F3, F1 ++ F4, rfl, h3, ⟨F1, F4, rfl, h1, h4, fun k hk q => h6 k hk (List.mem_append_right _ q)⟩, fun k hk q => ?_⟩, fun k => ?_⟩
    · rcases List.mem_append.1 q with q | q
      · exact h6 k q (List.mem_append_left _ hk)
      · exact h5 k hk q
    · simp only [List.mem_append]
      constructor
      · rintro (q | q | q)
        · exact .inr (.inl q)
        · exact .inl q
        · exact .inr (.inr q)
      · rintro (q | q | q)
        · exact .inr (.inl q)
        · exact .inl q
        · exact .inr (.inr q)
  | trans _ _ ih1 ih2 =>
    intro F h
    obtain ⟨F1, h1, m1⟩ := ih1 h
    obtain ⟨F2, h2, m2⟩ := ih2 h1
    exact ⟨F2, h2, fun k => (m2 k).trans (m1 k)⟩

/-- In W lie these parts, in blocks that are newer than w; nothing of w is turned. -/
def Sep (w W : World) (l : List Res) : Prop := ∃ F, Parts W l F ∧ Only [] w W ∧ Within w [] F

theorem Sep.nil (w : World) : Sep w w [] := ⟨[], rfl, Only.refl _ _, Within.refl _ _⟩
theorem Sep.old {w W : World} {l : List Res} (h : Sep w W l) : Only [] w W := by obtain ⟨_, _, h, _⟩ := h; exact h
theorem Sep.of_old {w W : World} (h : Only [] w W) : Sep w W [] := ⟨[], rfl, h, Within.refl _ _⟩
theorem Sep.perm {w W : World} {l l' : List Res} (h : Sep w W l) (hp : l.Perm l') : Sep w W l' := by
  obtain ⟨F, h1, h2, h3⟩ := h
  obtain ⟨F', h1', hm⟩ := h1.perm hp
  exact ⟨F', h1', h2, fun k hk => h3 k ((hm k).1 hk)⟩
theorem Sep.up1 {w W : World} {a b : Res} {l : List Res} (h : Sep w W (a :: b :: l)) : Sep w W (b :: a :: l) := h.perm (.swap _ _ _)
theorem Sep.up2 {w W : World} {a b c : Res} {l : List Res} (h : Sep w W (a :: b :: c :: l)) : Sep w W (c :: a :: b :: l) := h.perm ((List.Perm.cons _ (.swap _ _ _)).trans (.swap _ _ _))
theorem Sep.up3 {w W : World} {a b c d : Res} {l : List Res} (h : Sep w W (a :: b :: c :: d :: l)) : Sep w W (d :: a :: b :: c :: l) := h.perm ((List.Perm.cons _ ((List.Perm.cons _ (.swap _ _ _)).trans (.swap _ _ _))).trans (.swap _ _ _))
/-- Down again: the first comes behind one, two, three others. -/
theorem Sep.dn1 {w W : World} {a b : Res} {l : List Res} (h : Sep w W (a :: b :: l)) : Sep w W (b :: a :: l) := h.up1
theorem Sep.dn2 {w W : World} {a b c : Res} {l : List Res} (h : Sep w W (a :: b :: c :: l)) : Sep w W (b :: c :: a :: l) := h.perm ((List.Perm.swap _ _ _).trans (.cons _ (.swap _ _ _)))
theorem Sep.dn3 {w W : World} {a b c d : Res} {l : List Res} (h : Sep w W (a :: b :: c :: d :: l)) : Sep w W (b :: c :: d :: a :: l) := h.perm ((List.Perm.swap _ _ _).trans (.cons _ ((List.Perm.swap _ _ _).trans (.cons _ (.swap _ _ _)))))
theorem Sep.tail {w W : World} {a : Res} {l : List Res} (h : Sep w W (a :: l)) : Sep w W l := by
  obtain ⟨F, ⟨F1, F2, rfl, _, h2, _⟩, h4, h5⟩ := h
  exact ⟨F2, h2, h4, fun k hk => h5 k (List.mem_append_right _ hk)⟩

/-- What turns only new blocks leaves all parts. -/
theorem Sep.only {w W W' : World} {l : List Res} (h : Sep w W l) (ho : Only [] W W') : Sep w W' l := by
  obtain ⟨F, h1, h2, h3⟩ := h
  exact ⟨F, Parts.only ho h1 (by simp), h2.trans ho (Within.nil _ _), h3⟩
theorem Sep.drew {w W : World} {l : List Res} (h : Sep w W l) : Sep w W.drew l := h.only (Only.drew _ _)

theorem Sep.turnAt {w W W' : World} {R R' : Res} {l : List Res} {F1 F2 F' : List Nat} (_h1 : R.at' W F1) (h2 : Parts W l F2) (h3 : ∀ k ∈ F1, k ∉ F2) (h4 : Only [] w W) (h5 : Within w [] (F1 ++ F2))
    (h6 : R'.at' W' F') (h7 : Only F1 W W') (h8 : Within W F1 F') : Sep w W' (R' :: l) := by
  refine ⟨F' ++ F2, ⟨F', F2, rfl, h6, Parts.only h7 h2 (fun k hk q => h3 k q hk), fun k hk q => ?_⟩, h4.trans h7 (fun k hk => h5 k (List.mem_append_left _ hk)), fun k hk => ?_⟩
  · rcases h8 k hk with r | r
    · exact h3 k r q
    · have := Parts.lt h2 k q; omega
  · rcases List.mem_append.1 hk with q | q
    · rcases h8 k q with r | r
      · exact h5 k (List.mem_append_left _ r)
      · right; have := h4.size; omega
    · exact h5 k (List.mem_append_right _ q)

/-- What turns only the first part's blocks. -/
theorem Sep.turn {w W W' : World} {R R' : Res} {l : List Res} (h : Sep w W (R :: l)) (hs : ∀ F, R.at' W F → ∃ F', R'.at' W' F' ∧ Only F W W' ∧ Within W F F') : Sep w W' (R' :: l) := by
  obtain ⟨F, ⟨F1, F2, rfl, h1, h2, h3⟩, h4, h5⟩ := h
  obtain ⟨F', h6, h7, h8⟩ := hs F1 h1
  exact Sep.turnAt h1 h2 h3 h4 h5 h6 h7 h8

theorem Sep.first {w W : World} {R : Res} {l : List Res} (h : Sep w W (R :: l)) : ∃ F, R.at' W F ∧ Within w [] F := by
  obtain ⟨F, ⟨F1, F2, rfl, h1, h2, h3⟩, h4, h5⟩ := h
  exact ⟨F1, h1, fun k hk => h5 k (List.mem_append_left _ hk)⟩

/-- The first two parts share no block. -/
theorem Sep.two {w W : World} {R S : Res} {l : List Res} (h : Sep w W (R :: S :: l)) : ∃ F G, R.at' W F ∧ S.at' W G ∧ (∀ k ∈ F, k ∉ G) ∧ Within w [] F ∧ Within w [] G := by
  obtain ⟨F, ⟨F1, F2, rfl, h1, ⟨F3, F4, rfl, h5, h6, h7⟩, h3⟩, h4, h8⟩ := h
  exact ⟨F1, F3, h1, h5, fun k hk q => h3 k hk (List.mem_append_left _ q), fun k hk => h8 k (List.mem_append_left _ hk), fun k hk => h8 k (List.mem_append_right _ (List.mem_append_left _ hk))⟩

theorem Sep.blk {w W : World} {g : Nat} {o : Obj} {l : List Res} (h : Sep w W (blkRes g o :: l)) : W.heap[g]? = some o := by
  obtain ⟨F, ⟨_, h⟩, _⟩ := h.first; exact h

/-- A new block is a part of its own. -/
theorem Sep.alloc {w W : World} {l : List Res} (h : Sep w W l) (c : Array Value) (e : TypeId) : Sep w (W.alloc (.cells c e)) (blkRes W.heap.size (.cells c e (0, 0)) :: l) := by
  obtain ⟨F, h1, h2, h3⟩ := h
  refine ⟨[W.heap.size] ++ F, ⟨[W.heap.size], F, rfl, ⟨rfl, heap_alloc_self⟩, Parts.only (Only.alloc [] W _) h1 (by simp), fun k hk q => ?_⟩, h2.trans (Only.alloc [] W _) (Within.refl _ _), fun k hk => ?_⟩
  · simp at hk; have := Parts.lt h1 k q; omega
  · rcases List.mem_append.1 hk with q | q
    · simp at q; right; have := h2.size; omega
    · exact h3 k q

/-- A new block that is no part: it is forgotten. -/
theorem Sep.forget {w W : World} {l : List Res} (h : Sep w W l) (o : Obj) : Sep w (W.alloc o) l := h.only (Only.alloc _ _ _)

/-- A part that came about in new blocks. -/
theorem Sep.made {w W W' : World} {l : List Res} (h : Sep w W l) {R : Res} {F : List Nat} (hr : R.at' W' F) (ho : Only [] W W') (hw : Within W [] F) : Sep w W' (R :: l) := by
  obtain ⟨G, h1, h2, h3⟩ := h
  refine ⟨F ++ G, ⟨F, G, rfl, hr, Parts.only ho h1 (by simp), fun k hk q => ?_⟩, h2.trans ho (Within.nil _ _), fun k hk => ?_⟩
  · rcases hw k hk with r | r
    · cases r
    · have := Parts.lt h1 k q; omega
  · rcases List.mem_append.1 hk with q | q
    · rcases hw k q with r | r
      · cases r
      · right; have := h2.size; omega
    · exact h3 k q

/-- A store into a block that is a part. -/
theorem Sep.store {w W : World} {g : Nat} {c : Array Value} {e : TypeId} {f : Nat × Nat} {l : List Res} (h : Sep w W (blkRes g (.cells c e f) :: l)) (i : Nat) (v : Value) :
    Sep w (W.setCell ⟨g, i, none⟩ v) (blkRes g (.cells (c.setIfInBounds i v) e f) :: l) := by
  refine h.turn ?_
  rintro F ⟨rfl, hb⟩
  exact ⟨[g], ⟨rfl, heap_setCell_self hb⟩, Only.cellAt W g i v, Within.refl _ _⟩

/-- What a call does with the part R: C says what it answers and which part it leaves; nothing but R's blocks is turned. -/
def Does (P : Program) (f : FuncId) (args : Array Value) (W : World) (R : Res) (C : Ending → Res → Prop) : Prop :=
  ∀ F, R.at' W F → Calls P f args W fun e W' => ∃ R' F', C e R' ∧ R'.at' W' F' ∧ Only F W W' ∧ Within W F F'

theorem Does.sep {P : Program} {f : FuncId} {args : Array Value} {w W : World} {R : Res} {C : Ending → Res → Prop} {l : List Res} (h : Does P f args W R C) (hs : Sep w W (R :: l)) :
    Calls P f args W fun e W' => ∃ R', C e R' ∧ Sep w W' (R' :: l) := by
  obtain ⟨G, ⟨F1, F2, rfl, h1, h2, h3⟩, h4, h5⟩ := hs
  refine (h F1 h1).mono ?_
  rintro e W' ⟨R', F', hc, h6, h7, h8⟩
  exact ⟨R', hc, Sep.turnAt h1 h2 h3 h4 h5 h6 h7 h8⟩

end Go.Proofs.YtipfjjcokajjjaaDoor
