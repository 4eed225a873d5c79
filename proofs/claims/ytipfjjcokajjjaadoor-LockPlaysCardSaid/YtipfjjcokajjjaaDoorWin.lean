/-
  What is proved here: a slice that stands somewhere in a row (winRes: ahead of it cells that nobody reads, behind it room up to its capacity) as a part of memory, for any program: reading, append, another slice of it.
  No condition: each lemma names its own.
-/
import Derived.Test.YtipfjjcokajjjaaDoorRowY
import Derived.Deep.AppendSrc
set_option linter.unusedVariables false
set_option linter.unusedSimpArgs false
namespace Go.Proofs.YtipfjjcokajjjaaDoor
open Go.RowKit

/-- The slice v: n elements, whose cells are xs. -/
def winRes (e : TypeId) (size : Nat) (v : Value) (n : Nat) (xs : List Value) : Res where
  at' W F := (v = .slice none 0 0 ∧ n = 0 ∧ xs = [] ∧ F = []) ∨ ∃ g o cap cur P S, v = .slice (some ⟨g, o, none⟩) n cap ∧ W.heap[g]? = some (.cells cur e (0, 0)) ∧ cur.toList = P ++ xs ++ S ∧ P.length = o ∧ xs.length = n * size ∧ n ≤ cap ∧ cap ≤ maxLen ∧ (cap - n) * size ≤ S.length ∧ F = [g]
  lt := by
    rintro W F (⟨_, _, _, rfl⟩ | ⟨g, o, cap, cur, P, S, _, h, _, _, _, _, _, _, rfl⟩) k hk
    · cases hk
    · simp at hk; subst hk; exact lt_of_block h
  only := by
    rintro W W' F G (⟨a, b, c, rfl⟩ | ⟨g, o, cap, cur, P, S, a, h, c, d, e1, f, i, j, rfl⟩) ho hd
    · exact .inl ⟨a, b, c, rfl⟩
    · exact .inr ⟨g, o, cap, cur, P, S, a, ho.keeps h (hd g (by simp)), c, d, e1, f, i, j, rfl⟩

theorem Sep.win_nil {w W : World} {l : List Res} (h : Sep w W l) (e : TypeId) (size : Nat) : Sep w W (winRes e size (.slice none 0 0) 0 [] :: l) :=
  h.made (F := []) (.inl ⟨rfl, rfl, rfl, rfl⟩) (Only.refl _ _) (Within.refl _ _)

/-- What is known of a window that has a place. -/
structure WinAt (W : World) (e : TypeId) (size : Nat) (g o n cap : Nat) (xs : List Value) (cur : Array Value) (P S : List Value) : Prop where
  blk : W.heap[g]? = some (.cells cur e (0, 0))
  eq : cur.toList = P ++ xs ++ S
  pre : P.length = o
  len : xs.length = n * size
  le : n ≤ cap
  max : cap ≤ maxLen
  room : (cap - n) * size ≤ S.length

theorem WinAt.size {W : World} {e : TypeId} {size g o n cap : Nat} {xs : List Value} {cur : Array Value} {P S : List Value} (h : WinAt W e size g o n cap xs cur P S) : cur.size = o + n * size + S.length := by
  rw [← Array.length_toList, h.eq, List.length_append, List.length_append, h.pre, h.len]
theorem WinAt.fits {W : World} {e : TypeId} {size g o n cap : Nat} {xs : List Value} {cur : Array Value} {P S : List Value} (h : WinAt W e size g o n cap xs cur P S) : o + cap * size ≤ cur.size := by
  have h1 := h.size
  have h2 := h.room
  have h3 := h.le
  rw [Nat.sub_mul] at h2
  have := Nat.mul_le_mul_right size h3
  omega
theorem WinAt.get {W : World} {e : TypeId} {size g o n cap : Nat} {xs : List Value} {cur : Array Value} {P S : List Value} (h : WinAt W e size g o n cap xs cur P S) {j : Nat} {u : Value} (hu : xs[j]? = some u) : cur[o + j]? = some u := by
  have hj := (List.getElem?_eq_some_iff.1 hu).1
  rw [← Array.getElem?_toList, h.eq, List.append_assoc, List.getElem?_append_right (by rw [h.pre]; omega), h.pre, Nat.add_sub_cancel_left, List.getElem?_append_left hj, hu]
theorem WinAt.cell {W : World} {e : TypeId} {size g o n cap : Nat} {xs : List Value} {cur : Array Value} {P S : List Value} (h : WinAt W e size g o n cap xs cur P S) {j : Nat} {u : Value} (hu : xs[j]? = some u) :
    W.cell? ⟨g, o + j, none⟩ = some u ∧ W.frozen? ⟨g, o + j, none⟩ = false := ⟨cell_of_block h.blk _ (h.get hu), free_of_block h.blk _⟩

theorem Sep.win {w W : World} {e : TypeId} {size : Nat} {v : Value} {n : Nat} {xs : List Value} {l : List Res} (h : Sep w W (winRes e size v n xs :: l)) :
    (v = .slice none 0 0 ∧ n = 0 ∧ xs = []) ∨ ∃ g o cap cur P S, v = .slice (some ⟨g, o, none⟩) n cap ∧ WinAt W e size g o n cap xs cur P S := by
  obtain ⟨F, h, _⟩ := h.first
  rcases h with ⟨a, b, c, _⟩ | ⟨g, o, cap, cur, P, S, a, b, c, d, e1, f, i, j, _⟩
  · exact .inl ⟨a, b, c⟩
  · exact .inr ⟨g, o, cap, cur, P, S, a, b, c, d, e1, f, i, j⟩

/-- The window's block is turned: the window, then. -/
theorem Sep.winTurn {w W W' : World} {e : TypeId} {size g o n cap : Nat} {xs : List Value} {l : List Res} (h : Sep w W (winRes e size (.slice (some ⟨g, o, none⟩) n cap) n xs :: l)) (ho : Only [g] W W')
    {v' : Value} {n' : Nat} {xs' : List Value} {o' cap' : Nat} {cur : Array Value} {P S : List Value} (hv : v' = .slice (some ⟨g, o', none⟩) n' cap') (hw : WinAt W' e size g o' n' cap' xs' cur P S) : Sep w W' (winRes e size v' n' xs' :: l) := by
  refine h.turn ?_
  rintro F (⟨a, _⟩ | ⟨g', o2, cap2, cur2, P2, S2, a, b, _, _, _, _, _, _, rfl⟩)
  · cases a
  · simp only [Value.slice.injEq, Option.some.injEq, Addr.mk.injEq] at a
    obtain ⟨⟨rfl, _⟩, _⟩ := a
    exact ⟨[g], .inr ⟨g, o', cap', cur, P, S, hv, hw.blk, hw.eq, hw.pre, hw.len, hw.le, hw.max, hw.room, rfl⟩, ho, Within.refl _ _⟩

/-- Another window of the same block. -/
theorem Sep.winSub {w W : World} {e : TypeId} {size g o n cap : Nat} {xs : List Value} {l : List Res} (h : Sep w W (winRes e size (.slice (some ⟨g, o, none⟩) n cap) n xs :: l)) (a b c : Nat) (hb : a ≤ b) (hn : b ≤ n) (hc : a + c ≤ cap) (hbc : b ≤ a + c) {v' : Value} {n' : Nat} {xs' : List Value} (hv : v' = .slice (some ⟨g, o + a * size, none⟩) n' c) (hn' : n' = b - a) (hx : xs' = (xs.take (b * size)).drop (a * size)) :
    Sep w W (winRes e size v' n' xs' :: l) := by
  subst hv hn' hx
  rcases h.win with ⟨q, _⟩ | ⟨g2, o2, cap2, cur, P, S, q, hw⟩
  · cases q
  · simp only [Value.slice.injEq, Option.some.injEq, Addr.mk.injEq] at q
    obtain ⟨⟨rfl, rfl, _⟩, _, rfl⟩ := q
    have h1 : a * size ≤ b * size := Nat.mul_le_mul_right _ hb
    have h2 : b * size ≤ n * size := Nat.mul_le_mul_right _ hn
    have h3 : (a + c) * size ≤ cap * size := Nat.mul_le_mul_right _ hc
    have hcap : n * size ≤ cap * size := Nat.mul_le_mul_right _ hw.le
    have hbcs : b * size ≤ (a + c) * size := Nat.mul_le_mul_right _ hbc
    have hr := hw.room
    rw [Nat.sub_mul] at hr
    have hl := hw.len
    refine h.winTurn (Only.refl _ _) (cur := cur) (P := P ++ xs.take (a * size)) (S := xs.drop (b * size) ++ S) rfl ⟨hw.blk, ?_, ?_, ?_, by omega, by have := hw.max; omega, ?_⟩
    · rw [hw.eq]
      have e1 : xs = xs.take (a * size) ++ ((xs.take (b * size)).drop (a * size) ++ xs.drop (b * size)) := by
        rw [← List.append_assoc]
        have : xs.take (a * size) = (xs.take (b * size)).take (a * size) := by rw [List.take_take, Nat.min_eq_left h1]
        rw [this, List.take_append_drop, List.take_append_drop]
      conv => lhs; rw [e1]
      simp only [List.append_assoc]
    · rw [List.length_append, List.length_take, hw.pre, hl, Nat.min_eq_left (by omega)]
    · rw [List.length_drop, List.length_take, hl, Nat.min_eq_left h2, Nat.sub_mul]
    · rw [List.length_append, List.length_drop, hl, Nat.sub_mul, Nat.sub_mul]
      rw [Nat.add_mul] at h3 hbcs
      omega

/-- A window that a call has made. -/
theorem Sep.winMade {w W W' : World} {l : List Res} (h : Sep w W l) (ho : Only [] W W') {e : TypeId} {size g o n cap : Nat} {xs : List Value} {cur : Array Value} {P S : List Value} (hw : WinAt W' e size g o n cap xs cur P S) (hg : W.heap.size ≤ g) :
    Sep w W' (winRes e size (.slice (some ⟨g, o, none⟩) n cap) n xs :: l) :=
  h.made (F := [g]) (.inr ⟨g, o, cap, cur, P, S, rfl, hw.blk, hw.eq, hw.pre, hw.len, hw.le, hw.max, hw.room, rfl⟩) ho (fun k hk => by right; simp at hk; omega)

/-- 'append(window, x..)': the cells of what is appended are known. -/
theorem run_append_win {P : Program} {w W : World} {l : List Res} (t ty e : TypeId) (i : TypeInfo) (z : Value) (size bytes : Nat) (ht : P.underlying t = some (.slice e)) (hi : P.info? e = some i ∧ i.zero = some z ∧ i.size = size ∧ i.bytes = bytes) (hzs : z.cells.size = size) (hsz : 0 < size)
    (v : Value) (n : Nat) (xs : List Value) (hsep : Sep w W (winRes e size v n xs :: l)) (a : Addr) (m c : Nat) (news : List Value) (hm : 0 < m) (hl : news.length = m * size) (hnews : ∀ j u, news[j]? = some u → W.cell? (a.add j) = some u) (h1 : ∀ u ∈ news, u.oneCell' = true)
    (h63 : n + m ≤ maxLen) (hbytes : (n + m) * bytes ≤ 140737488355328) :
    ∃ v' w', (Builtin.append_ #[t, t] ty #[v, .slice (some a) m c]).run P W = .ok v' w' ∧ Sep w w' (winRes e size v' (n + m) (xs ++ news) :: l) := by
  obtain ⟨hi1, hi2, rfl, rfl⟩ := hi
  have hsmall : n + m ≤ 9223372036854775807 := by simp only [maxLen] at h63; omega
  have hmp : 0 < m * i.size := Nat.mul_pos hm hsz
  rcases hsep.win with ⟨rfl, rfl, rfl⟩ | ⟨g, o, cap, cur, A, S, rfl, hw⟩
  · simp only [Nat.zero_add, List.nil_append] at *
    have hr := run_append_nil (P := P) W t ty e i z ht hi1 hi2 a m c news hl hnews (by omega) (by omega) (by omega)
    refine ⟨_, _, hr, ?_⟩
    refine (hsep.tail).winMade (((Only.drew [] W).trans (Only.alloc _ _ _) (Within.refl _ _))) (cur := _) (P := []) (S := (Builtin.zeroCells z.cells (grownCap W m 0 e - m)).toList) ⟨heap_alloc_self (w := W.drew), ?_, rfl, hl, grownCap_ge W _ _ _, grownCap_le_maxLen W m 0 e (by omega), ?_⟩ (Nat.le_refl _)
    · simp
    · rw [Array.length_toList, size_zeroCells, hzs]; exact Nat.le_refl _
  · by_cases hroom : n + m ≤ cap
    · have hc : ∀ j, j < news.length → (W.cell? ⟨g, o + n * i.size + j, none⟩).isSome = true := by
        intro j hj
        have := hw.fits
        have h3 := Nat.mul_le_mul_right i.size hroom
        rw [Nat.add_mul] at h3
        obtain ⟨u, hu⟩ := cell_in hw.blk (i := o + n * i.size + j) (by omega)
        rw [hu]; rfl
      have hst := run_storeCells_at P g (o + n * i.size) e news 0 cur W hw.blk (by have := hw.fits; have h3 := Nat.mul_le_mul_right i.size hroom; rw [Nat.add_mul] at h3; omega) h1
      simp only [Nat.add_zero] at hst
      have hfc := run_firstCells_some (P := P) W i.size m a m c news hl hnews
      have hr : (Builtin.append_ #[t, t] ty #[.slice (some ⟨g, o, none⟩) n cap, .slice (some a) m c]).run P W = .ok (.slice (some ⟨g, o, none⟩) (n + m) cap) (W.setRow g (cur.toList.take (o + n * i.size) ++ news ++ cur.toList.drop (o + n * i.size + news.length)).toArray) := by
        simp [Builtin.append_, run_underlying ht, sizeOf, typeInfo, hi1, Builtin.lenOf, hroom, hfc, Addr.add_lit, hst]
      refine ⟨_, _, hr, hsep.winTurn (Only.setRow W g _) (P := A) (S := S.drop (m * i.size)) rfl ⟨setRow_heap _ _ _ _ _ _ hw.blk, ?_, hw.pre, ?_, hroom, hw.max, ?_⟩⟩
      · have e1 : (A ++ xs).length = o + n * i.size := by rw [List.length_append, hw.pre, hw.len]
        rw [hw.eq]
        have e2 : List.take (o + n * i.size) (A ++ xs ++ S) = A ++ xs := by rw [← e1, List.take_left]
        have e3 : List.drop (o + n * i.size + news.length) (A ++ xs ++ S) = S.drop (m * i.size) := by rw [← e1, List.drop_append, hl]; simp
        rw [e2, e3]
        simp
      · rw [List.length_append, hw.len, hl, Nat.add_mul]
      · have := hw.room
        rw [List.length_drop]
        rw [Nat.sub_mul] at this ⊢
        rw [Nat.add_mul]
        omega
    · have holds : ∀ j u, xs[j]? = some u → W.cell? ((⟨g, o, none⟩ : Addr).add j) = some u := fun j u hu => by
        rw [show (⟨g, o, none⟩ : Addr).add j = ⟨g, o + j, none⟩ from by unfold Addr.add; split <;> simp_all]
        exact (hw.cell hu).1
      have hr := run_append_grow (P := P) W t ty e i z ht hi1 hi2 ⟨g, o, none⟩ n cap xs hw.len holds a m c news hl hnews (by omega) (by omega) (growslice_fits (by omega) hbytes)
      refine ⟨_, _, hr, ?_⟩
      refine (hsep.tail).winMade (((Only.drew [] W).trans (Only.alloc _ _ _) (Within.refl _ _))) (P := []) (S := (Builtin.zeroCells z.cells (grownCap W (n + m) cap e - (n + m))).toList) ⟨heap_alloc_self (w := W.drew), ?_, rfl, ?_, grownCap_ge W _ _ _, grownCap_le_maxLen W (n + m) cap e h63, ?_⟩ (Nat.le_refl _)
      · simp
      · rw [List.length_append, hw.len, hl, Nat.add_mul]
      · rw [Array.length_toList, size_zeroCells, hzs]; exact Nat.le_refl _

theorem wpList_append_win {P : Program} {w W : World} {l : List Res} {ops : Array Oper} {rest : List Oper} {o : Oper} {a : Act} {Q : Exit → Act → World → Prop} (hgd : o.guard = none) (s x : Operand) (t : TypeId)
    (ho : o.op = .call { callee := .builtin .append, args := #[s, x], argTypes := #[t, t] })
    (e : TypeId) (i : TypeInfo) (z : Value) (size bytes : Nat) (ht : P.underlying t = some (.slice e)) (hi : P.info? e = some i ∧ i.zero = some z ∧ i.size = size ∧ i.bytes = bytes) (hzs : z.cells.size = size) (hsz : 0 < size)
    (v : Value) (n : Nat) (xs : List Value) (hs : a.eval s = v) (hsep : Sep w W (winRes e size v n xs :: l)) (ad : Addr) (m c : Nat) (news : List Value) (hx : a.eval x = .slice (some ad) m c) (hm : 0 < m) (hl : news.length = m * size) (hnews : ∀ j u, news[j]? = some u → W.cell? (ad.add j) = some u) (h1 : ∀ u ∈ news, u.oneCell' = true)
    (h63 : n + m ≤ maxLen) (hbytes : (n + m) * bytes ≤ 140737488355328)
    (h : ∀ v' w', Sep w w' (winRes e size v' (n + m) (xs ++ news) :: l) → wpList P ops Q rest (a.put o.dst v') w') : wpList P ops Q (o :: rest) a W := by
  refine wpList_plain hgd fun _ hK => ?_
  obtain ⟨v', w', hr, h2⟩ := run_append_win (P := P) t o.type e i z size bytes ht hi hzs hsz v n xs hsep ad m c news hm hl hnews h1 h63 hbytes
  unfold Oper.wp execOp
  simp only [ho, resolve, invoke, builtin, Sem.run_bind, Sem.run_pure, Result.andThen_ok, List.map_toArray, List.map_cons, List.map_nil, hs, hx, hr]
  exact hK _ _ (h v' w' h2)

end Go.Proofs.YtipfjjcokajjjaaDoor
