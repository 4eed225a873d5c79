/-
  What is proved here: a row that the call itself makes (a slice that grows by append) as a part of memory, for any program.
  No condition: each lemma names its own.
-/
import Derived.Test.YtipfjjcokajjjaaDoorSep
namespace Go.Proofs.YtipfjjcokajjjaaDoor
open Go.RowKit

/-- The slice v owns a row of n elements, whose cells are xs. -/
def rowRes (e : TypeId) (size : Nat) (v : Value) (n : Nat) (xs : List Value) : Res where
  at' W F := W.ownsRow 0 e size v n xs ∧ F = v.ownBlock.toList
  lt := by rintro W F ⟨h, rfl⟩ k hk; exact (h.lt k (by simpa using hk)).2
  only := by rintro W W' F G ⟨h, rfl⟩ ho hd; exact ⟨ownsRow_only h ho (fun k hk => hd k (by simp [hk])), rfl⟩

/-- The nil slice is such a row, of no elements. -/
theorem Sep.row_nil {w W : World} {l : List Res} (h : Sep w W l) (e : TypeId) (size : Nat) : Sep w W (rowRes e size (.slice none 0 0) 0 [] :: l) :=
  h.made (F := []) ⟨World.ownsRow_nil _ _ _ _, rfl⟩ (Only.refl _ _) (Within.refl _ _)

theorem Sep.row {w W : World} {e : TypeId} {size : Nat} {v : Value} {n : Nat} {xs : List Value} {l : List Res} (h : Sep w W (rowRes e size v n xs :: l)) : W.ownsRow 0 e size v n xs := by
  obtain ⟨F, ⟨h, _⟩, _⟩ := h.first; exact h

/-- 'append(row, x)' of one element that lies in a block made just before: the row is longer, the other parts stand. -/
theorem wpList_append_sep {P : Program} {w W : World} {l : List Res} {cs : Array Value} {e : TypeId} {ops : Array Oper} {rest : List Oper} {o : Oper} {a : Act} {Q : Exit → Act → World → Prop} (hgd : o.guard = none) (s x : Operand) (t : TypeId)
    (ho : o.op = .call { callee := .builtin .append, args := #[s, x], argTypes := #[t, t] })
    (i : TypeInfo) (z : Value) (size bytes : Nat) (ht : P.underlying t = some (.slice e)) (hi : P.info? e = some i ∧ i.zero = some z ∧ i.size = size ∧ i.bytes = bytes) (hzs : z.cells.size = size) (hsz : 0 < size)
    (v : Value) (n : Nat) (xs : List Value) (hs : a.eval s = v)
    {B : Nat} (hx : a.eval x = .slice (some ⟨B, 0, none⟩) 1 1) (hB : B = W.heap.size) (hl : cs.size = size) (h1 : ∀ u ∈ cs.toList, u.oneCell' = true)
    (hsep : Sep w W (rowRes e size v n xs :: l))
    (h63 : n + 1 ≤ maxLen) (hbytes : (n + 1) * bytes ≤ 140737488355328)
    (h : ∀ p q w', Sep w w' (rowRes e size (.slice p (n + 1) q) (n + 1) (xs ++ cs.toList) :: l) → wpList P ops Q rest (a.put o.dst (.slice p (n + 1) q)) w') : wpList P ops Q (o :: rest) a (W.alloc (.cells cs e)) := by
  refine wpList_append_new hgd s x t ho i z size bytes ht hi hzs hsz v n xs hs hx hB hl h1 hsep.row h63 hbytes ?_
  intro p q w' h2 h3 h4
  refine h p q w' (hsep.turn ?_)
  rintro F ⟨_, rfl⟩
  exact ⟨_, ⟨h2, rfl⟩, h3, h4⟩

/-- A cell of a row. -/
theorem ownsRow_cell_of {w : World} {e : TypeId} {size : Nat} {p : Option Addr} {n q : Nat} {xs : List Value} (h : w.ownsRow 0 e size (.slice p n q) n xs) {j : Nat} {u : Value} (hu : xs[j]? = some u) :
    ∃ g, p = some ⟨g, 0, none⟩ ∧ w.cell? ⟨g, j, none⟩ = some u ∧ w.frozen? ⟨g, j, none⟩ = false := by
  rcases h.2 with ⟨h1, h2⟩ | ⟨g, cap, cur, hv, _, hg, _⟩
  · exfalso
    have h3 := h.1
    rw [h2, Nat.zero_mul] at h3
    rw [List.eq_nil_of_length_eq_zero h3] at hu
    simp at hu
  · simp only [Value.slice.injEq] at hv
    obtain ⟨rfl, _, _⟩ := hv
    have := h.cells (g := g) rfl j u hu
    have hadd : (⟨g, 0, none⟩ : Addr).add j = ⟨g, j, none⟩ := by unfold Addr.add; split <;> simp_all
    rw [hadd] at this
    exact ⟨g, rfl, this, free_of_block hg j⟩

/-- An append of whatever slice (nil, empty, or with cells that are known) onto a row that the call owns. -/
theorem run_append_src {P : Program} (w : World) (t ty e : TypeId) (i : TypeInfo) (z : Value) (size bytes : Nat) (ht : P.underlying t = some (.slice e)) (hi : P.info? e = some i) (hz : i.zero = some z)
    (hsize : i.size = size) (hby : i.bytes = bytes) (hzs : z.cells.size = size) (hsz : 0 < size)
    (v : Value) (n : Nat) (xs : List Value) (hown : w.ownsRow 0 e size v n xs)
    (p : Option Addr) (m c : Nat) (news : List Value) (hl : news.length = m * size) (hnews : ∀ j u, news[j]? = some u → ∃ b o, p = some ⟨b, o, none⟩ ∧ w.cell? ⟨b, o + j, none⟩ = some u) (h1 : ∀ u ∈ news, u.oneCell' = true)
    (h63 : n + m ≤ maxLen) (hbytes : (n + m) * bytes ≤ 140737488355328) :
    ∃ p' q w', (Builtin.append_ #[t, t] ty #[v, .slice p m c]).run P w = .ok (.slice p' (n + m) q) w' ∧ w'.ownsRow 0 e size (.slice p' (n + m) q) (n + m) (xs ++ news) ∧ Only v.ownBlock.toList w w' ∧ Within w v.ownBlock.toList (Value.slice p' (n + m) q).ownBlock.toList := by
  cases p with
  | some a =>
    refine run_append_mine w t ty e i z size bytes ht hi hz hsize hby hzs hsz v n xs hown a m c news hl ?_ h1 h63 hbytes
    intro j u hu
    obtain ⟨b, o, he, hc⟩ := hnews j u hu
    simp only [Option.some.injEq] at he
    subst he
    have hadd : (⟨b, o, none⟩ : Addr).add j = ⟨b, o + j, none⟩ := by unfold Addr.add; split <;> simp_all
    rw [hadd]; exact hc
  | none =>
    have hn : news = [] := by
      cases news with
      | nil => rfl
      | cons u l => obtain ⟨b, o, he, _⟩ := hnews 0 u rfl; cases he
    subst hn
    have hm : m = 0 := by
      rcases Nat.eq_zero_or_pos m with h | h
      · exact h
      · have := Nat.mul_pos h hsz; simp at hl; omega
    subst hm
    subst hsize
    rw [List.append_nil, Nat.add_zero]
    obtain ⟨p', q, rfl⟩ := ownsRow_slice hown
    refine ⟨p', q, w, ?_, hown, Only.refl _ _, Within.refl _ _⟩
    rcases hown.2 with ⟨h2, rfl⟩ | ⟨g, cap, cur, hv, _, hg, hnc, _⟩
    · cases h2
      simp [Builtin.append_, run_underlying ht, sizeOf, typeInfo, hi, Builtin.lenOf, Builtin.firstCells]
    · simp only [Value.slice.injEq] at hv
      obtain ⟨rfl, _, rfl⟩ := hv
      simp [Builtin.append_, run_underlying ht, sizeOf, typeInfo, hi, Builtin.lenOf, Builtin.firstCells, hnc]
      simp [storeCells]

/-- The same, as the walk takes it, beside other parts. -/
theorem wpList_append_src {P : Program} {w W : World} {l : List Res} {e : TypeId} {ops : Array Oper} {rest : List Oper} {o : Oper} {a : Act} {Q : Exit → Act → World → Prop} (hgd : o.guard = none) (s x : Operand) (t : TypeId)
    (ho : o.op = .call { callee := .builtin .append, args := #[s, x], argTypes := #[t, t] })
    (i : TypeInfo) (z : Value) (size bytes : Nat) (ht : P.underlying t = some (.slice e)) (hi : P.info? e = some i ∧ i.zero = some z ∧ i.size = size ∧ i.bytes = bytes) (hzs : z.cells.size = size) (hsz : 0 < size)
    (v : Value) (n : Nat) (xs : List Value) (hs : a.eval s = v)
    (p : Option Addr) (m c : Nat) (news : List Value) (hx : a.eval x = .slice p m c) (hl : news.length = m * size) (hnews : ∀ j u, news[j]? = some u → ∃ b o, p = some ⟨b, o, none⟩ ∧ W.cell? ⟨b, o + j, none⟩ = some u) (h1 : ∀ u ∈ news, u.oneCell' = true)
    (hsep : Sep w W (rowRes e size v n xs :: l))
    (h63 : n + m ≤ maxLen) (hbytes : (n + m) * bytes ≤ 140737488355328)
    (h : ∀ p' q w', Sep w w' (rowRes e size (.slice p' (n + m) q) (n + m) (xs ++ news) :: l) → wpList P ops Q rest (a.put o.dst (.slice p' (n + m) q)) w') : wpList P ops Q (o :: rest) a W := by
  refine wpList_plain hgd fun _ hK => ?_
  obtain ⟨p', q, w', hr, h2, h3, h4⟩ := run_append_src (P := P) W t o.type e i z size bytes ht hi.1 hi.2.1 hi.2.2.1 hi.2.2.2 hzs hsz v n xs hsep.row p m c news hl hnews h1 h63 hbytes
  unfold Oper.wp execOp
  simp only [ho, resolve, invoke, builtin, Sem.run_bind, Sem.run_pure, Result.andThen_ok, List.map_toArray, List.map_cons, List.map_nil, hs, hx, hr]
  refine hK _ _ (h p' q w' (hsep.turn ?_))
  rintro F ⟨_, rfl⟩
  exact ⟨_, ⟨h2, rfl⟩, h3, h4⟩

/-- A new empty row. -/
theorem Sep.row_made {w W : World} {l : List Res} (h : Sep w W l) (e : TypeId) (size : Nat) : Sep w (W.alloc (.cells #[] e)) (rowRes e size (.slice (some ⟨W.heap.size, 0, none⟩) 0 0) 0 [] :: l) :=
  h.made (F := [W.heap.size]) ⟨World.ownsRow_made W #[] 0 (Nat.zero_le _) (Nat.zero_le _) (by simp), by simp [Value.ownBlock]⟩ (Only.alloc _ _ _) (fun k hk => by right; simp at hk; omega)

end Go.Proofs.YtipfjjcokajjjaaDoor
