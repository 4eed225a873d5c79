/-
  What is said here: values and keys as plain data: a key's bytes ('keyL'), what reads them ('splitF'), the text above all that begin with one ('afterL'); with no program in sight.
  No condition.
-/
import Derived.Test.YtfnlgpngnknkmaaDoorKit
namespace Go.Proofs.YtfnlgpngnknkmaaDoor

structure ValD where
  kind : Int
  n : Int
  s : ByteArray

/-- A value that stands in a key. -/
def goodV (v : ValD) : Bool :=
  if v.kind = 1 then (v.n == 0 || v.n == 1) && v.s.size == 0
  else if v.kind = 2 then v.s.size == 0
  else if v.kind = 3 then v.n == 0 && decide (v.s.size ≤ 1024)
  else false
def blankV (v : ValD) : Bool := v.kind == 0 && v.n == 0 && v.s.size == 0

/-- A text's bytes in a key, without its end. -/
def escL : List UInt8 → List UInt8
  | [] => []
  | c :: t => if c = 0 then 0 :: 255 :: escL t else c :: escL t

/-- Eight bytes, the highest first. -/
def eightL (u : Nat) : List UInt8 := [UInt8.ofNat (u / 2 ^ 56), UInt8.ofNat (u / 2 ^ 48), UInt8.ofNat (u / 2 ^ 40), UInt8.ofNat (u / 2 ^ 32), UInt8.ofNat (u / 2 ^ 24), UInt8.ofNat (u / 2 ^ 16), UInt8.ofNat (u / 2 ^ 8), UInt8.ofNat u]
/-- The number of bytes, the highest first. -/
def numL (l : List UInt8) : Nat := l.foldl (fun a c => a * 256 + c.toNat) 0

def partL (v : ValD) : List UInt8 :=
  if v.kind = 1 then [1, UInt8.ofNat v.n.toNat]
  else if v.kind = 2 then 2 :: eightL (v.n + 9223372036854775808).toNat
  else if v.kind = 3 then 3 :: (escL v.s.data.toList ++ [0, 1])
  else [0]

def keyL (l : List ValD) : List UInt8 := l.flatMap partL

/-- The text that bytes go on with, and the bytes behind its end. -/
def readText : List UInt8 → Option (List UInt8 × List UInt8)
  | [] => none
  | [c] => if c = 0 then none else none
  | c :: d :: t =>
    if c = 0 then
      if d = 1 then some ([], t) else if d = 255 then (readText t).map fun r => (0 :: r.1, r.2) else none
    else (readText (d :: t)).map fun r => (c :: r.1, r.2)

/-- The value that bytes begin with, and the bytes behind it. -/
def nextM : List UInt8 → Option (ValD × List UInt8)
  | [] => none
  | k :: t =>
    if k = 0 then some (⟨0, 0, ⟨#[]⟩⟩, t)
    else if k = 1 then match t with
      | [] => none
      | c :: r => if 1 < c.toNat then none else some (⟨1, (c.toNat : Int), ⟨#[]⟩⟩, r)
    else if k = 2 then (if t.length < 8 then none else some (⟨2, (numL (t.take 8) : Int) - 9223372036854775808, ⟨#[]⟩⟩, t.drop 8))
    else if k = 3 then match readText t with
      | none => none
      | some (x, r) => if 1024 < x.length then none else some (⟨3, 0, ⟨x.toArray⟩⟩, r)
    else none

/-- The values of a key. -/
def splitF : Nat → List UInt8 → Option (List ValD)
  | _, [] => some []
  | 0, _ :: _ => none
  | f + 1, c :: t => match nextM (c :: t) with
    | none => none
    | some (v, r) => (splitF f r).map (v :: ·)

/-- The least text above all that begin with one. -/
def afterR : List UInt8 → List UInt8
  | [] => []
  | c :: t => if c = 255 then afterR t else (c + 1) :: t
def afterL (l : List UInt8) : List UInt8 := (afterR l.reverse).reverse

theorem readText_esc (l rest : List UInt8) : readText (escL l ++ 0 :: 1 :: rest) = some (l, rest) := by
  induction l with
  | nil => simp [escL, readText]
  | cons c t ih =>
    by_cases hc : c = 0
    · subst hc
      simp only [escL, if_true, List.cons_append, readText]
      rw [if_neg (by decide), ih]
      rfl
    · simp only [escL, if_neg hc, List.cons_append]
      have hne : ∃ d t', escL t ++ 0 :: 1 :: rest = d :: t' := by
        cases h : escL t ++ 0 :: 1 :: rest with
        | nil => simp at h
        | cons d t' => exact ⟨d, t', rfl⟩
      obtain ⟨d, t', h⟩ := hne
      rw [h] at ih ⊢
      simp only [readText, if_neg hc, ih]
      rfl

theorem numL_eight {u : Nat} (h : u < 18446744073709551616) : numL (eightL u) = u := by
  simp only [numL, eightL, List.foldl_cons, List.foldl_nil, UInt8.toNat_ofNat']
  omega

/-- A value's bytes are read. -/
theorem nextM_part {v : ValD} (hv : goodV v = true ∨ blankV v = true) (hn : -9223372036854775808 ≤ v.n ∧ v.n ≤ 9223372036854775807) (rest : List UInt8) : nextM (partL v ++ rest) = some (v, rest) := by
  obtain ⟨k, n, s⟩ := v
  obtain ⟨h1, h2⟩ := hn
  simp only at h1 h2
  have hempty : s.size = 0 → s = ⟨#[]⟩ := by
    intro h
    apply ByteArray.ext
    exact Array.eq_empty_of_size_eq_zero h
  unfold partL
  simp only
  by_cases k1 : k = 1
  · subst k1
    have hg : (n = 0 ∨ n = 1) ∧ s.size = 0 := by
      rcases hv with h | h
      · simpa [goodV] using h
      · simp [blankV] at h
    obtain ⟨hn01, hs⟩ := hg
    rw [if_pos rfl, hempty hs]
    rcases hn01 with rfl | rfl
    · rfl
    · rfl
  · rw [if_neg k1]
    by_cases k2 : k = 2
    · subst k2
      have hs : s.size = 0 := by
        rcases hv with h | h
        · simpa [goodV] using h
        · simp [blankV] at h
      rw [if_pos rfl, hempty hs]
      have hl : (eightL (n + 9223372036854775808).toNat).length = 8 := rfl
      simp only [List.cons_append, nextM]
      rw [if_neg (by decide), if_neg (by decide), if_pos trivial, if_neg (by rw [List.length_append, hl]; omega)]
      rw [List.take_append_of_le_length (by omega), List.take_of_length_le (by omega), numL_eight (by omega), List.drop_append_of_le_length (by omega), List.drop_of_length_le (by omega)]
      have e : (((n + 9223372036854775808).toNat : Nat) : Int) - 9223372036854775808 = n := by omega
      rw [e]
      rfl
    · rw [if_neg k2]
      by_cases k3 : k = 3
      · subst k3
        have hg : n = 0 ∧ s.size ≤ 1024 := by
          rcases hv with h | h
          · simpa [goodV] using h
          · simp [blankV] at h
        obtain ⟨rfl, hs⟩ := hg
        rw [if_pos rfl]
        simp only [List.cons_append, List.append_assoc, List.nil_append, nextM]
        rw [if_neg (by decide), if_neg (by decide), if_neg (by decide), if_pos trivial, readText_esc]
        simp only
        rw [if_neg (by show ¬ 1024 < s.data.toList.length; have : s.data.toList.length = s.size := by rw [Array.length_toList]; rfl
                       omega)]
      · rw [if_neg k3]
        have hg : k = 0 ∧ n = 0 ∧ s.size = 0 := by
          rcases hv with h | h
          · simp [goodV, k1, k2, k3] at h
          · simpa [blankV, and_assoc] using h
        obtain ⟨rfl, rfl, hs⟩ := hg
        rw [hempty hs]
        rfl

theorem readText_back (l : List UInt8) : ∀ (x rest : List UInt8), readText l = some (x, rest) → l = escL x ++ 0 :: 1 :: rest := by
  induction h : l.length using Nat.strongRecOn generalizing l with
  | _ n ih =>
    intro x rest hr
    match l, h, hr with
    | [], _, hr => simp [readText] at hr
    | [c], _, hr => simp [readText] at hr
    | c :: d :: t, h, hr =>
      simp only [readText] at hr
      by_cases hc : c = 0
      · subst hc
        rw [if_pos rfl] at hr
        by_cases hd : d = 1
        · subst hd
          rw [if_pos rfl] at hr
          simp only [Option.some.injEq, Prod.mk.injEq] at hr
          obtain ⟨rfl, rfl⟩ := hr
          rfl
        · rw [if_neg hd] at hr
          by_cases hd2 : d = 255
          · subst hd2
            rw [if_pos rfl] at hr
            cases ht : readText t with
            | none => rw [ht] at hr; simp at hr
            | some p =>
              obtain ⟨a, b⟩ := p
              rw [ht] at hr
              simp only [Option.map_some, Option.some.injEq, Prod.mk.injEq] at hr
              obtain ⟨rfl, rfl⟩ := hr
              have := ih t.length (by simp at h; omega) t rfl a b ht
              rw [this]
              rfl
          · rw [if_neg hd2] at hr; cases hr
      · rw [if_neg hc] at hr
        cases ht : readText (d :: t) with
        | none => rw [ht] at hr; simp at hr
        | some p =>
          obtain ⟨a, b⟩ := p
          rw [ht] at hr
          simp only [Option.map_some, Option.some.injEq, Prod.mk.injEq] at hr
          obtain ⟨rfl, rfl⟩ := hr
          have := ih (d :: t).length (by simp at h ⊢; omega) (d :: t) rfl a b ht
          rw [this]
          simp only [escL, if_neg hc, List.cons_append]

theorem numL_lt8 (a b c d e f g h : UInt8) : numL [a, b, c, d, e, f, g, h] < 18446744073709551616 := by
  simp only [numL, List.foldl_cons, List.foldl_nil]
  have := a.toNat_lt; have := b.toNat_lt; have := c.toNat_lt; have := d.toNat_lt
  have := e.toNat_lt; have := f.toNat_lt; have := g.toNat_lt; have := h.toNat_lt
  omega

theorem eight_num (a b c d e f g h : UInt8) : eightL (numL [a, b, c, d, e, f, g, h]) = [a, b, c, d, e, f, g, h] := by
  simp only [numL, eightL, List.foldl_cons, List.foldl_nil]
  have h1 := a.toNat_lt; have h2 := b.toNat_lt; have h3 := c.toNat_lt; have h4 := d.toNat_lt
  have h5 := e.toNat_lt; have h6 := f.toNat_lt; have h7 := g.toNat_lt; have h8 := h.toNat_lt
  simp only [List.cons.injEq, and_true]
  refine ⟨?_, ?_, ?_, ?_, ?_, ?_, ?_, ?_⟩ <;> (apply UInt8.toNat.inj; rw [UInt8.toNat_ofNat']; omega)

theorem list8 (l : List UInt8) (h : l.length = 8) : ∃ a b c d e f g i, l = [a, b, c, d, e, f, g, i] := by
  match l, h with
  | [a, b, c, d, e, f, g, i], _ => exact ⟨a, b, c, d, e, f, g, i, rfl⟩

/-- What is read is a value, and these are its bytes. -/
theorem nextM_back {l : List UInt8} {v : ValD} {rest : List UInt8} (h : nextM l = some (v, rest)) :
    l = partL v ++ rest ∧ (goodV v = true ∨ blankV v = true) ∧ -9223372036854775808 ≤ v.n ∧ v.n ≤ 9223372036854775807 := by
  cases l with
  | nil => simp [nextM] at h
  | cons k t =>
    simp only [nextM] at h
    by_cases k0 : k = 0
    · subst k0
      rw [if_pos rfl] at h
      simp only [Option.some.injEq, Prod.mk.injEq] at h
      obtain ⟨rfl, rfl⟩ := h
      exact ⟨rfl, .inr rfl, by decide, by decide⟩
    · rw [if_neg k0] at h
      by_cases k1 : k = 1
      · subst k1
        rw [if_pos rfl] at h
        cases t with
        | nil => simp at h
        | cons c r =>
          simp only at h
          by_cases hc : 1 < c.toNat
          · rw [if_pos hc] at h; cases h
          · rw [if_neg hc] at h
            simp only [Option.some.injEq, Prod.mk.injEq] at h
            obtain ⟨rfl, rfl⟩ := h
            have hc2 : c.toNat = 0 ∨ c.toNat = 1 := by omega
            refine ⟨?_, .inl ?_, by show (-9223372036854775808 : Int) ≤ (c.toNat : Int); omega, by show (c.toNat : Int) ≤ 9223372036854775807; omega⟩
            · simp [partL]
            · have hz : ((⟨#[]⟩ : ByteArray).size == 0) = true := rfl
              show (((c.toNat : Int) == 0 || (c.toNat : Int) == 1) && ((⟨#[]⟩ : ByteArray).size == 0)) = true
              rw [hz, Bool.and_true]
              rcases hc2 with e | e <;> rw [e] <;> rfl
      · rw [if_neg k1] at h
        by_cases k2 : k = 2
        · subst k2
          rw [if_pos rfl] at h
          by_cases h8 : t.length < 8
          · rw [if_pos h8] at h; cases h
          · rw [if_neg h8] at h
            simp only [Option.some.injEq, Prod.mk.injEq] at h
            obtain ⟨rfl, rfl⟩ := h
            obtain ⟨a, b, c, d, e, f, g, i, h9⟩ := list8 (t.take 8) (by rw [List.length_take]; omega)
            have hb := numL_lt8 a b c d e f g i
            refine ⟨?_, .inl rfl, by show (-9223372036854775808 : Int) ≤ (numL (t.take 8) : Int) - 9223372036854775808; omega, by show (numL (t.take 8) : Int) - 9223372036854775808 ≤ 9223372036854775807; rw [h9]; omega⟩
            have ht : t = t.take 8 ++ t.drop 8 := (List.take_append_drop 8 t).symm
            have e1 : ((numL (t.take 8) : Int) - 9223372036854775808 + 9223372036854775808).toNat = numL (t.take 8) := by omega
            unfold partL
            simp only
            rw [if_neg (by decide), if_pos trivial, e1, h9, eight_num]
            rw [← h9]
            simp
        · rw [if_neg k2] at h
          by_cases k3 : k = 3
          · subst k3
            rw [if_pos rfl] at h
            cases ht : readText t with
            | none => rw [ht] at h; cases h
            | some p =>
              obtain ⟨x, r⟩ := p
              rw [ht] at h
              simp only at h
              by_cases hx : 1024 < x.length
              · rw [if_pos hx] at h; cases h
              · rw [if_neg hx] at h
                simp only [Option.some.injEq, Prod.mk.injEq] at h
                obtain ⟨rfl, rfl⟩ := h
                have := readText_back t x r ht
                refine ⟨?_, .inl ?_, by show (-9223372036854775808 : Int) ≤ 0; decide, by show (0 : Int) ≤ 9223372036854775807; decide⟩
                · rw [this]
                  simp [partL]
                · have e : (⟨x.toArray⟩ : ByteArray).size = x.length := by show x.toArray.size = _; simp
                  simp [goodV, e]
                  omega
          · rw [if_neg k3] at h; cases h

theorem partL_ne (v : ValD) : partL v ≠ [] := by
  unfold partL
  split
  · simp
  · split
    · simp
    · split <;> simp

def GoodL (l : List ValD) : Prop := ∀ v ∈ l, (goodV v = true ∨ blankV v = true) ∧ -9223372036854775808 ≤ v.n ∧ v.n ≤ 9223372036854775807

/-- A key's values are those that it was made of. -/
theorem splitF_key (l : List ValD) (h : GoodL l) : ∀ f, (keyL l).length ≤ f → splitF f (keyL l) = some l := by
  induction l with
  | nil => intro f _; cases f <;> rfl
  | cons v l ih =>
    intro f hf
    have e : keyL (v :: l) = partL v ++ keyL l := by simp [keyL]
    rw [e] at hf ⊢
    obtain ⟨c, t, hp⟩ : ∃ c t, partL v = c :: t := by
      cases hp : partL v with
      | nil => exact absurd hp (partL_ne v)
      | cons c t => exact ⟨c, t, rfl⟩
    have hn := nextM_part (h v (by simp)).1 (h v (by simp)).2 (keyL l)
    rw [hp] at hf hn ⊢
    simp only [List.cons_append, List.length_cons, List.length_append] at hf hn ⊢
    cases f with
    | zero => omega
    | succ f =>
      simp only [splitF, hn]
      rw [ih (fun x hx => h x (by simp [hx])) f (by omega)]
      rfl

/-- A text that is split is the key of its values. -/
theorem splitF_back : ∀ (f : Nat) (l : List UInt8) (vs : List ValD), splitF f l = some vs → keyL vs = l ∧ GoodL vs := by
  intro f
  induction f with
  | zero =>
    intro l vs h
    cases l with
    | nil => simp [splitF] at h; subst h; exact ⟨rfl, by intro v hv; simp at hv⟩
    | cons c t => simp [splitF] at h
  | succ f ih =>
    intro l vs h
    cases l with
    | nil => simp [splitF] at h; subst h; exact ⟨rfl, by intro v hv; simp at hv⟩
    | cons c t =>
      simp only [splitF] at h
      cases hn : nextM (c :: t) with
      | none => rw [hn] at h; cases h
      | some p =>
        obtain ⟨v, r⟩ := p
        rw [hn] at h
        simp only at h
        cases hs : splitF f r with
        | none => rw [hs] at h; simp at h
        | some ws =>
          rw [hs] at h
          simp only [Option.map_some, Option.some.injEq] at h
          subst h
          obtain ⟨h1, h2⟩ := ih r ws hs
          obtain ⟨h3, h4⟩ := nextM_back hn
          refine ⟨?_, ?_⟩
          · rw [h3, ← h1]
            simp [keyL]
          · intro x hx
            rcases List.mem_cons.1 hx with rfl | hx
            · exact h4
            · exact h2 x hx

end Go.Proofs.YtfnlgpngnknkmaaDoor
