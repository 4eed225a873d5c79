/-
  What is said here: bytes in their order: what is above all that begin with a text ('afterL'), the order of keys; with no program in sight.
  No condition but that numbers are int64.
-/
import Derived.Test.YtfnlgpngnknkmaaDoorKyT
namespace Go.Proofs.YtfnlgpngnknkmaaDoor
set_option linter.unusedSimpArgs false
set_option linter.unusedVariables false

theorem lt_cons {a b : UInt8} {l m : List UInt8} : (a :: l < b :: m) ↔ a < b ∨ a = b ∧ l < m := List.cons_lt_cons_iff
theorem nil_lt {a : UInt8} {l : List UInt8} : ([] : List UInt8) < a :: l := List.nil_lt_cons a l
theorem not_lt_nil (l : List UInt8) : ¬ l < [] := List.not_lt_nil l
theorem lt_irr (l : List UInt8) : ¬ l < l := List.lt_irrefl l
theorem u8_lt {a b : UInt8} : a < b ↔ a.toNat < b.toNat := UInt8.lt_iff_toNat_lt

/-- 'afterL', from the front. -/
def upL : List UInt8 → Option (List UInt8)
  | [] => none
  | c :: t => match upL t with
    | some r => some (c :: r)
    | none => if c = 255 then none else some [c + 1]

theorem afterR_snoc (l : List UInt8) (c : UInt8) : afterR (l ++ [c]) = if afterR l = [] then (if c = 255 then [] else [c + 1]) else afterR l ++ [c] := by
  induction l with
  | nil => simp [afterR]
  | cons d t ih =>
    by_cases hd : d = 255
    · have e1 : afterR (d :: t ++ [c]) = afterR (t ++ [c]) := by simp [afterR, hd]
      have e2 : afterR (d :: t) = afterR t := by simp [afterR, hd]
      rw [e1, e2, ih]
    · have e1 : afterR (d :: t ++ [c]) = (d + 1) :: (t ++ [c]) := by simp [afterR, hd]
      have e2 : afterR (d :: t) = (d + 1) :: t := by simp [afterR, hd]
      rw [e1, e2, if_neg (by simp)]
      rfl

theorem afterL_up' (l : List UInt8) : afterL l = (upL l).getD [] ∧ (afterR l.reverse = [] ↔ upL l = none) := by
  induction l with
  | nil => exact ⟨rfl, by simp [afterR, upL]⟩
  | cons c t ih =>
    obtain ⟨h1, h2⟩ := ih
    unfold afterL at h1 ⊢
    rw [List.reverse_cons, afterR_snoc]
    simp only [upL]
    cases hu : upL t with
    | none =>
      rw [if_pos (h2.2 hu)]
      by_cases hc : c = 255
      · rw [if_pos hc, if_pos hc]; simp
      · rw [if_neg hc, if_neg hc]; simp
    | some r =>
      have hne : ¬ afterR t.reverse = [] := fun e => by rw [h2.1 e] at hu; cases hu
      rw [if_neg hne]
      rw [hu] at h1
      simp only [Option.getD_some] at h1 ⊢
      constructor
      · rw [List.reverse_append, h1]; rfl
      · simp

theorem up_ne {l r : List UInt8} (h : upL l = some r) : r ≠ [] := by
  cases l with
  | nil => cases h
  | cons c t =>
    simp only [upL] at h
    split at h
    · cases h; simp
    · split at h
      · cases h
      · cases h; simp

/-- What begins with a text stands from it on, below what is after it; and nothing else does. -/
theorem up_spec : ∀ (s x : List UInt8), (¬ x < s ∧ ∀ r, upL s = some r → x < r) ↔ s <+: x
  | [], x => by simp [upL]
  | c :: t, [] => by
    constructor
    · rintro ⟨h, _⟩; exact absurd nil_lt h
    · intro h; simp at h
  | c :: t, d :: y => by
    have ih := up_spec t y
    rw [List.cons_prefix_cons]
    have hlt : (d :: y < c :: t) ↔ d < c ∨ d = c ∧ y < t := lt_cons
    rw [hlt]
    cases hu : upL t with
    | some r =>
      have hs : upL (c :: t) = some (c :: r) := by simp only [upL, hu]
      rw [hu] at ih
      rw [hs]
      constructor
      · rintro ⟨h1, h2⟩
        have h3 := lt_cons.1 (h2 _ rfl)
        rcases h3 with h3 | ⟨rfl, h3⟩
        · exact absurd (.inl h3) h1
        · exact ⟨rfl, ih.1 ⟨fun h => h1 (.inr ⟨rfl, h⟩), fun r' e => by cases e; exact h3⟩⟩
      · rintro ⟨rfl, h⟩
        obtain ⟨h1, h2⟩ := ih.2 h
        refine ⟨?_, ?_⟩
        · rintro (h3 | ⟨_, h3⟩)
          · rw [u8_lt] at h3; omega
          · exact h1 h3
        · intro r' e
          cases e
          exact lt_cons.2 (.inr ⟨rfl, h2 _ rfl⟩)
    | none =>
      rw [hu] at ih
      have ih' : ¬ y < t ↔ t <+: y := ⟨fun h => ih.1 ⟨h, fun r e => by cases e⟩, fun h => (ih.2 h).1⟩
      by_cases hc : c = 255
      · have hs : upL (c :: t) = none := by simp only [upL, hu]; rw [if_pos hc]
        rw [hs]
        have hd := d.toNat_lt
        have hcn : c.toNat = 255 := by rw [hc]; rfl
        constructor
        · rintro ⟨h1, _⟩
          have hdc : d = c := by
            apply UInt8.toNat.inj
            have : ¬ d < c := fun h => h1 (.inl h)
            rw [u8_lt] at this
            omega
          exact ⟨hdc.symm, ih'.1 fun h => h1 (.inr ⟨hdc, h⟩)⟩
        · rintro ⟨rfl, h⟩
          refine ⟨?_, fun r e => by cases e⟩
          rintro (h3 | ⟨_, h3⟩)
          · rw [u8_lt] at h3; omega
          · exact ih'.2 h h3
      · have hs : upL (c :: t) = some [c + 1] := by simp only [upL, hu]; rw [if_neg hc]
        rw [hs]
        have hcn : c.toNat ≠ 255 := fun e => hc (UInt8.toNat.inj e)
        have hcl := c.toNat_lt
        have hc1 : (c + 1).toNat = c.toNat + 1 := by
          rw [UInt8.toNat_add]
          show (c.toNat + 1) % 256 = _
          omega
        constructor
        · rintro ⟨h1, h2⟩
          have h3 := lt_cons.1 (h2 _ rfl)
          have hd : d < c + 1 := by
            rcases h3 with h3 | ⟨_, h3⟩
            · exact h3
            · exact absurd h3 (not_lt_nil _)
          have hdc : d = c := by
            apply UInt8.toNat.inj
            have : ¬ d < c := fun h => h1 (.inl h)
            rw [u8_lt] at this hd
            omega
          exact ⟨hdc.symm, ih'.1 fun h => h1 (.inr ⟨hdc, h⟩)⟩
        · rintro ⟨rfl, h⟩
          refine ⟨?_, ?_⟩
          · rintro (h3 | ⟨_, h3⟩)
            · rw [u8_lt] at h3; omega
            · exact ih'.2 h h3
          · intro r e
            cases e
            exact lt_cons.2 (.inl (by rw [u8_lt]; omega))

/-- x stands from s on, below what is after s. -/
def InL (s x : List UInt8) : Prop := ¬ x < s ∧ (afterL s = [] ∨ x < afterL s)
theorem in_spec (s x : List UInt8) : InL s x ↔ s <+: x := by
  rw [← up_spec]
  unfold InL
  rw [(afterL_up' s).1]
  cases hu : upL s with
  | none => simp
  | some r =>
    have := up_ne hu
    simp [this]

/-- The order of values. -/
def LtV (a b : ValD) : Prop := a.kind < b.kind ∨ a.kind = b.kind ∧ (a.n < b.n ∨ a.n = b.n ∧ a.s.data.toList < b.s.data.toList)

theorem esc_lt : ∀ (s t x y : List UInt8), (escL s ++ 0 :: 1 :: x < escL t ++ 0 :: 1 :: y) ↔ s < t ∨ s = t ∧ x < y
  | [], [], x, y => by
    simp only [escL, List.nil_append]
    rw [lt_cons, lt_cons]
    simp [lt_irr, u8_lt]
  | [], d :: t, x, y => by
    have h : ([] : List UInt8) < d :: t := nil_lt
    simp only [escL, List.nil_append]
    by_cases hd : d = 0
    · subst hd
      rw [if_pos rfl]
      simp only [List.cons_append]
      rw [lt_cons, lt_cons]
      simp [h, u8_lt]
    · rw [if_neg hd]
      simp only [List.cons_append]
      rw [lt_cons]
      have : (0 : UInt8) < d := by
        rw [u8_lt]
        have : d.toNat ≠ 0 := fun e => hd (UInt8.toNat.inj e)
        show 0 < _
        omega
      simp [h, this]
  | c :: s, [], x, y => by
    have h : ¬ (c :: s < ([] : List UInt8)) := not_lt_nil _
    simp only [escL, List.nil_append]
    by_cases hc : c = 0
    · subst hc
      rw [if_pos rfl]
      simp only [List.cons_append]
      rw [lt_cons, lt_cons]
      simp [h, u8_lt]
    · rw [if_neg hc]
      simp only [List.cons_append]
      rw [lt_cons]
      have : ¬ c < 0 := by rw [u8_lt]; simp
      simp [h, this, hc]
  | c :: s, d :: t, x, y => by
    have ih := esc_lt s t x y
    rw [lt_cons]
    by_cases hc : c = 0
    · subst hc
      by_cases hd : d = 0
      · subst hd
        simp only [escL, if_true, List.cons_append]
        rw [lt_cons, lt_cons, ih]
        simp [u8_lt]
      · have hp : (0 : UInt8) < d := by
          rw [u8_lt]
          have : d.toNat ≠ 0 := fun e => hd (UInt8.toNat.inj e)
          show 0 < _
          omega
        simp only [escL, if_true, if_neg hd, List.cons_append]
        rw [lt_cons]
        simp [hp]
    · by_cases hd : d = 0
      · subst hd
        simp only [escL, if_true, if_neg hc, List.cons_append]
        rw [lt_cons]
        have : ¬ c < 0 := by rw [u8_lt]; simp
        simp [this, hc]
      · simp only [escL, if_neg hc, if_neg hd, List.cons_append]
        rw [lt_cons, ih]
        constructor
        · rintro (h | ⟨rfl, h | ⟨rfl, h⟩⟩)
          · exact .inl (.inl h)
          · exact .inl (.inr ⟨rfl, h⟩)
          · exact .inr ⟨rfl, h⟩
        · rintro ((h | ⟨rfl, h⟩) | ⟨h, h'⟩)
          · exact .inl h
          · exact .inr ⟨rfl, .inl h⟩
          · cases h; exact .inr ⟨rfl, .inr ⟨rfl, h'⟩⟩

theorem numL_cons (c : UInt8) (t : List UInt8) : numL (c :: t) = c.toNat * 256 ^ t.length + numL t := by
  suffices h : ∀ (t : List UInt8) (a : Nat), t.foldl (fun a c => a * 256 + c.toNat) a = a * 256 ^ t.length + numL t by
    have := h t c.toNat
    unfold numL
    rw [List.foldl_cons]
    simpa [numL] using this
  intro t
  induction t with
  | nil => intro a; simp [numL]
  | cons d t ih =>
    intro a
    have h1 := ih (a * 256 + d.toNat)
    have h2 := ih d.toNat
    have e : numL (d :: t) = t.foldl (fun a c => a * 256 + c.toNat) d.toNat := by simp [numL]
    rw [List.foldl_cons, h1, e, h2, List.length_cons, Nat.pow_succ, Nat.add_mul, Nat.mul_assoc, Nat.mul_comm 256]
    omega

theorem num_lt : ∀ (l m x y : List UInt8), l.length = m.length → ((l ++ x < m ++ y) ↔ numL l < numL m ∨ numL l = numL m ∧ x < y)
  | [], [], x, y, _ => by simp [numL]
  | c :: l, d :: m, x, y, h => by
    have hl : l.length = m.length := by simpa using h
    have ih := num_lt l m x y hl
    have b1 := numL_lt l
    have b2 := numL_lt m
    rw [List.cons_append, List.cons_append, lt_cons, ih, numL_cons, numL_cons, ← hl]
    rw [← hl] at b2
    have key : ∀ p q : Nat, p < q → p * 256 ^ l.length + 256 ^ l.length ≤ q * 256 ^ l.length := by
      intro p q hpq
      have : (p + 1) * 256 ^ l.length ≤ q * 256 ^ l.length := Nat.mul_le_mul_right _ hpq
      rw [Nat.add_mul, Nat.one_mul] at this
      exact this
    rw [u8_lt]
    rcases Nat.lt_trichotomy c.toNat d.toNat with hcd | hcd | hcd
    · have := key _ _ hcd
      constructor
      · intro _; exact .inl (by omega)
      · intro _; exact .inl hcd
    · have e : c = d := UInt8.toNat.inj hcd
      subst e
      constructor
      · rintro (h | ⟨_, h | ⟨h, h'⟩⟩)
        · omega
        · exact .inl (by omega)
        · exact .inr ⟨by omega, h'⟩
      · rintro (h | ⟨h, h'⟩)
        · exact .inr ⟨rfl, .inl (by omega)⟩
        · exact .inr ⟨rfl, .inr ⟨by omega, h'⟩⟩
    · have := key _ _ hcd
      constructor
      · rintro (h | ⟨h, _⟩)
        · omega
        · subst h; omega
      · rintro (h | ⟨h, _⟩) <;> omega
  | [], _ :: _, _, _, h => by simp at h
  | _ :: _, [], _, _, h => by simp at h


def OkV (v : ValD) : Prop := (goodV v = true ∨ blankV v = true) ∧ -9223372036854775808 ≤ v.n ∧ v.n ≤ 9223372036854775807

theorem OkV.cases {v : ValD} (h : OkV v) : (v.kind = 0 ∧ v.n = 0 ∧ v.s.data.toList = [] ∧ partL v = [0]) ∨ (v.kind = 1 ∧ (v.n = 0 ∨ v.n = 1) ∧ v.s.data.toList = [] ∧ partL v = [1, UInt8.ofNat v.n.toNat]) ∨
    (v.kind = 2 ∧ v.s.data.toList = [] ∧ partL v = 2 :: eightL (v.n + 9223372036854775808).toNat) ∨ (v.kind = 3 ∧ v.n = 0 ∧ partL v = 3 :: (escL v.s.data.toList ++ [0, 1])) := by
  obtain ⟨k, n, s⟩ := v
  obtain ⟨h, _, _⟩ := h
  simp only
  have hem : s.size = 0 → s.data.toList = [] := fun e => List.eq_nil_of_length_eq_zero (by rw [list_len]; exact e)
  by_cases k1 : k = 1
  · subst k1
    have h' : (n = 0 ∨ n = 1) ∧ s.size = 0 := by
      rcases h with h | h
      · simpa [goodV] using h
      · simp [blankV] at h
    exact .inr (.inl ⟨rfl, h'.1, hem h'.2, by simp [partL]⟩)
  · by_cases k2 : k = 2
    · subst k2
      have h' : s.size = 0 := by
        rcases h with h | h
        · simpa [goodV] using h
        · simp [blankV] at h
      exact .inr (.inr (.inl ⟨rfl, hem h', by simp [partL]⟩))
    · by_cases k3 : k = 3
      · subst k3
        have h' : n = 0 := by
          rcases h with h | h
          · have h' : n = 0 ∧ s.size ≤ 1024 := by simpa [goodV] using h
            exact h'.1
          · simp [blankV] at h
        exact .inr (.inr (.inr ⟨rfl, h', by simp [partL]⟩))
      · have h' : k = 0 ∧ n = 0 ∧ s.size = 0 := by
          rcases h with h | h
          · simp [goodV, k1, k2, k3] at h
          · simpa [blankV, and_assoc] using h
        obtain ⟨rfl, rfl, hs⟩ := h'
        exact .inl ⟨rfl, rfl, hem hs, by simp [partL]⟩

/-- A value's bytes stand in the order of values, whatever comes behind. -/
theorem part_lt {a b : ValD} (ha : OkV a) (hb : OkV b) (x y : List UInt8) : (partL a ++ x < partL b ++ y) ↔ LtV a b ∨ a = b ∧ x < y := by
  have heq : ∀ {a b : ValD}, a = b ↔ a.kind = b.kind ∧ a.n = b.n ∧ a.s.data.toList = b.s.data.toList := by
    intro a b
    constructor
    · rintro rfl; exact ⟨rfl, rfl, rfl⟩
    · obtain ⟨k, n, s⟩ := a
      obtain ⟨k', n', s'⟩ := b
      rintro ⟨h1, h2, h3⟩
      simp only at h1 h2 h3
      rw [h1, h2, Go.WideShapes.bytes_inj h3]
  have hr := ha.2
  have hr' := hb.2
  rw [heq]
  unfold LtV
  rcases ha.cases with ⟨a1, a2, a3, a4⟩ | ⟨a1, a2, a3, a4⟩ | ⟨a1, a3, a4⟩ | ⟨a1, a2, a4⟩ <;>
    rcases hb.cases with ⟨b1, b2, b3, b4⟩ | ⟨b1, b2, b3, b4⟩ | ⟨b1, b3, b4⟩ | ⟨b1, b2, b4⟩ <;>
    rw [a4, b4, a1, b1] <;> simp only [List.cons_append, lt_cons]
  · simp [a2, b2, a3, b3, lt_irr, u8_lt]
  · simp [u8_lt]
  · simp [u8_lt]
  · simp [u8_lt]
  · simp [u8_lt]
  · rw [a3, b3]
    rcases a2 with e | e <;> rcases b2 with e' | e' <;> rw [e, e'] <;> simp [lt_irr, u8_lt]
  · simp [u8_lt]
  · simp [u8_lt]
  · simp [u8_lt]
  · simp [u8_lt]
  · rw [a3, b3]
    have h8 : ∀ u : Nat, (eightL u).length = 8 := fun _ => rfl
    have := num_lt (eightL (a.n + 9223372036854775808).toNat) (eightL (b.n + 9223372036854775808).toNat) x y (by rw [h8, h8])
    rw [numL_eight (by omega), numL_eight (by omega)] at this
    have i1 : ¬ (2 : UInt8) < 2 := by rw [u8_lt]; omega
    simp only [i1, false_or, true_and, this, lt_irr, and_false, or_false, and_true]
    constructor
    · rintro (h | ⟨h, h'⟩)
      · exact .inl (.inr (by omega))
      · exact .inr ⟨by omega, h'⟩
    · rintro ((h | h) | ⟨h, h'⟩)
      · omega
      · exact .inl (by omega)
      · exact .inr ⟨by omega, h'⟩
  · simp [u8_lt]
  · simp [u8_lt]
  · simp [u8_lt]
  · simp [u8_lt]
  · have := esc_lt a.s.data.toList b.s.data.toList x y
    have i1 : ¬ (3 : UInt8) < 3 := by rw [u8_lt]; omega
    simp only [List.append_assoc, List.cons_append, List.nil_append]
    simp only [i1, false_or, true_and, this, a2, b2]
    simp

/-- The order of lists of values. -/
def cmpL : List ValD → List ValD → Int
  | [], [] => 0
  | [], _ :: _ => -1
  | _ :: _, [] => 1
  | a :: l, b :: m => if a.kind < b.kind ∨ a.kind = b.kind ∧ (a.n < b.n ∨ a.n = b.n ∧ a.s.data.toList < b.s.data.toList) then -1 else if a.kind = b.kind ∧ a.n = b.n ∧ a.s.data.toList = b.s.data.toList then cmpL l m else 1

theorem cmp_key : ∀ (l m : List ValD), (∀ v ∈ l, OkV v) → (∀ v ∈ m, OkV v) → ((keyL l < keyL m) ↔ cmpL l m < 0) ∧ ((keyL l = keyL m) ↔ cmpL l m = 0)
  | [], [], _, _ => by simp [keyL, cmpL, lt_irr]
  | [], b :: m, _, _ => by
    have e : keyL (b :: m) = partL b ++ keyL m := by simp [keyL]
    have hne := partL_ne b
    rw [e]
    cases hp : partL b with
    | nil => exact absurd hp hne
    | cons c t => simp [keyL, cmpL, nil_lt]
  | a :: l, [], _, _ => by
    have e : keyL (a :: l) = partL a ++ keyL l := by simp [keyL]
    have hne := partL_ne a
    rw [e]
    cases hp : partL a with
    | nil => exact absurd hp hne
    | cons c t =>
      have h0 : keyL [] = [] := rfl
      simp [h0, cmpL, not_lt_nil]
  | a :: l, b :: m, hl, hm => by
    have ih := cmp_key l m (fun v hv => hl v (by simp [hv])) (fun v hv => hm v (by simp [hv]))
    have ea : keyL (a :: l) = partL a ++ keyL l := by simp [keyL]
    have eb : keyL (b :: m) = partL b ++ keyL m := by simp [keyL]
    have p1 := part_lt (hl a (by simp)) (hm b (by simp)) (keyL l) (keyL m)
    have p2 := part_lt (hm b (by simp)) (hl a (by simp)) (keyL m) (keyL l)
    rw [ea, eb]
    have heq : a = b ↔ a.kind = b.kind ∧ a.n = b.n ∧ a.s.data.toList = b.s.data.toList := by
      constructor
      · rintro rfl; exact ⟨rfl, rfl, rfl⟩
      · obtain ⟨k, n, s⟩ := a
        obtain ⟨k', n', s'⟩ := b
        rintro ⟨h1, h2, h3⟩
        simp only at h1 h2 h3
        rw [h1, h2, Go.WideShapes.bytes_inj h3]
    simp only [cmpL]
    by_cases h1 : LtV a b
    · rw [if_pos (show a.kind < b.kind ∨ a.kind = b.kind ∧ (a.n < b.n ∨ a.n = b.n ∧ a.s.data.toList < b.s.data.toList) from h1)]
      refine ⟨by rw [p1]; simp [h1], ?_⟩
      have hlt : partL a ++ keyL l < partL b ++ keyL m := p1.2 (.inl h1)
      simp only [show ¬ ((-1 : Int) = 0) by decide, iff_false]
      intro e
      rw [e] at hlt
      exact lt_irr _ hlt
    · rw [if_neg (show ¬ (a.kind < b.kind ∨ a.kind = b.kind ∧ (a.n < b.n ∨ a.n = b.n ∧ a.s.data.toList < b.s.data.toList)) from h1)]
      by_cases h2 : a = b
      · rw [if_pos (heq.1 h2)]
        subst h2
        refine ⟨?_, ?_⟩
        · rw [p1, ← ih.1]; simp [h1]
        · rw [← ih.2]; simp
      · rw [if_neg (fun h => h2 (heq.2 h))]
        refine ⟨?_, ?_⟩
        · rw [p1]; simp [h1, h2]
        · simp only [show ¬ ((1 : Int) = 0) by decide, iff_false]
          intro e
          have hlt : ¬ partL b ++ keyL m < partL a ++ keyL l := by rw [e]; exact lt_irr _
          rw [p2] at hlt
          have h3 : ¬ LtV b a := fun h => hlt (.inl h)
          apply h2
          rw [heq]
          unfold LtV at h1 h3
          have hk : a.kind = b.kind := by
            by_cases c1 : a.kind < b.kind
            · exact absurd (.inl c1) h1
            · by_cases c2 : b.kind < a.kind
              · exact absurd (.inl c2) h3
              · omega
          have hn : a.n = b.n := by
            by_cases c1 : a.n < b.n
            · exact absurd (.inr ⟨hk, .inl c1⟩) h1
            · by_cases c2 : b.n < a.n
              · exact absurd (.inr ⟨hk.symm, .inl c2⟩) h3
              · omega
          refine ⟨hk, hn, ?_⟩
          have t1 : ¬ a.s.data.toList < b.s.data.toList := fun h => h1 (.inr ⟨hk, .inr ⟨hn, h⟩⟩)
          have t2 : ¬ b.s.data.toList < a.s.data.toList := fun h => h3 (.inr ⟨hk.symm, .inr ⟨hn.symm, h⟩⟩)
          exact Std.Antisymm.antisymm _ _ (List.not_lt.1 t2) (List.not_lt.1 t1)

end Go.Proofs.YtfnlgpngnknkmaaDoor
