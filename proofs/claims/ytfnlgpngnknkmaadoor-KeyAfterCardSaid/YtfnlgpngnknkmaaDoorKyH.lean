/-
  What is proved here: small lemmas for the statements on keys: what a key that was made splits into, and back; rows that a call owns have room.
  No condition.
-/
import Derived.Test.YtfnlgpngnknkmaaDoorKyC
namespace Go.Proofs.YtfnlgpngnknkmaaDoor
open Go.RowKit Go.Proofs.YtfnlgpngnknkmaaDoor.F Go.Proofs.YtfnlgpngnknkmaaDoorW.PrintWords Go.Proofs.YtfnlgpngnknkmaaDoorW.PrintLast
set_option linter.unusedSimpArgs false
set_option linter.unusedVariables false

theorem Sep.cap {w W : World} {e : TypeId} {size : Nat} {p : Option Addr} {n q : Nat} {xs : List Value} {l : List Res} (h : Sep w W (rowRes e size (.slice p n q) n xs :: l)) : n ≤ q := by
  rcases h.row.2 with ⟨h1, h2⟩ | ⟨g, cap, cur, hv, _, _, hnc, _⟩
  · cases h1; exact Nat.le_refl _
  · simp only [Value.slice.injEq] at hv
    obtain ⟨_, _, rfl⟩ := hv
    exact hnc

theorem splitF_len : ∀ (f : Nat) (l : List UInt8) (vs : List ValD), splitF f l = some vs → vs.length ≤ l.length := by
  intro f
  induction f with
  | zero =>
    intro l vs h
    cases l with
    | nil => simp [splitF] at h; subst h; simp
    | cons c t => simp [splitF] at h
  | succ f ih =>
    intro l vs h
    cases l with
    | nil => simp [splitF] at h; subst h; simp
    | cons c t =>
      simp only [splitF] at h
      cases hn : nextM (c :: t) with
      | none => rw [hn] at h; cases h
      | some p =>
        obtain ⟨v, r⟩ := p
        rw [hn] at h
        simp only at h
        have hlen := nextM_len hn
        cases hs : splitF f r with
        | none => rw [hs] at h; simp at h
        | some ws =>
          rw [hs] at h
          simp only [Option.map_some, Option.some.injEq] at h
          subst h
          have := ih r ws hs
          simp only [List.length_cons] at hlen ⊢
          omega

theorem splitS_len (s : ByteArray) : (splitS s).1.length ≤ s.size := by
  unfold splitS
  split
  · simp
  · cases h : splitF s.size s.data.toList with
    | none => simp [splitRes]
    | some vs =>
      have := splitF_len _ _ _ h
      rw [list_len] at this
      simpa [splitRes] using this

theorem good_of {l : List S45} (hok : (l.map vd).all okV = true) (hn : In64 l) : GoodL (l.map vd) := by
  intro v hv
  have h1 := List.all_eq_true.1 hok v hv
  exact ⟨by simpa [okV] using h1, hn.vd v hv⟩

/-- A key that was made: it is the key, and good. -/
theorem makeS_ok {l : List ValD} (h : (makeS l).2 = 0) : l.all okV = true ∧ (makeS l).1 = ⟨(keyL l).toArray⟩ ∧ (keyL l).length ≤ 4096 := by
  unfold makeS at h ⊢
  by_cases h1 : l.all okV = true
  · rw [if_pos h1] at h ⊢
    by_cases h2 : 4096 < (keyL l).length
    · rw [if_pos h2] at h; cases h
    · rw [if_neg h2]
      exact ⟨h1, rfl, by omega⟩
  · rw [if_neg h1] at h; cases h
theorem makeS_not {l : List ValD} (h : (makeS l).2 ≠ 0) : (makeS l).1 = ⟨#[]⟩ := by
  unfold makeS at h ⊢
  by_cases h1 : l.all okV = true
  · rw [if_pos h1] at h ⊢
    by_cases h2 : 4096 < (keyL l).length
    · rw [if_pos h2]
    · rw [if_neg h2] at h; exact absurd rfl h
  · rw [if_neg h1]
theorem makeS_code (l : List ValD) : (makeS l).2 = 0 ∨ (makeS l).2 = 2 ∨ (makeS l).2 = 11 := by
  unfold makeS
  split
  · split
    · exact .inr (.inl rfl)
    · exact .inl rfl
  · exact .inr (.inr rfl)
theorem size_key (l : List UInt8) : (⟨l.toArray⟩ : ByteArray).size = l.length := by show l.toArray.size = _; simp

theorem split_made {l : List S45} (hn : In64 l) (h : (makeS (l.map vd)).2 = 0) : splitS (makeS (l.map vd)).1 = (l, 0) := by
  obtain ⟨h1, h2, h3⟩ := makeS_ok h
  rw [h2]
  unfold splitS
  rw [size_key, if_neg (by omega)]
  have hf : splitF (keyL (l.map vd)).length (keyL (l.map vd)) = some (l.map vd) := splitF_key _ (good_of h1 hn) _ (Nat.le_refl _)
  have hd : (⟨(keyL (l.map vd)).toArray⟩ : ByteArray).data.toList = keyL (l.map vd) := rfl
  rw [hd, hf]
  simp only [splitRes, List.nil_append, map_sd_vd]

theorem made_split {s : ByteArray} (h : (splitS s).2 = 0) : In64 (splitS s).1 ∧ makeS ((splitS s).1.map vd) = (s, 0) := by
  unfold splitS at h ⊢
  by_cases hb : 4096 < s.size
  · rw [if_pos hb] at h; cases h
  · rw [if_neg hb] at h ⊢
    cases hf : splitF s.size s.data.toList with
    | none => rw [hf] at h; cases h
    | some vs =>
      obtain ⟨h1, h2⟩ := splitF_back _ _ _ hf
      have e : (splitRes [] (some vs)).1 = vs.map sd := by simp [splitRes]
      rw [e, map_vd_sd]
      constructor
      · intro x hx
        obtain ⟨v, hv, rfl⟩ := List.mem_map.1 hx
        exact (h2 v hv).2
      · have hall : vs.all okV = true := List.all_eq_true.2 fun v hv => by simpa [okV] using (h2 v hv).1
        unfold makeS
        rw [if_pos hall, h1, list_len, if_neg hb]
theorem split_not {s : ByteArray} (h : (splitS s).2 ≠ 0) : (splitS s).1 = [] := by
  unfold splitS at h ⊢
  by_cases hb : 4096 < s.size
  · rw [if_pos hb]
  · rw [if_neg hb] at h ⊢
    cases hf : splitF s.size s.data.toList with
    | none => rfl
    | some vs => rw [hf] at h; exact absurd rfl h

end Go.Proofs.YtfnlgpngnknkmaaDoor
