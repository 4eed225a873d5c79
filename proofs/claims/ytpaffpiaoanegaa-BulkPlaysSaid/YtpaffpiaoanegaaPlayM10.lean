/-
  What is said here: lists by rising keys, with no program in sight: what is in a list behind putting and deleting; a list is told by what is in it; going from key to key; all keys (rangeL with no bounds).
  No condition: each lemma names its own.
-/
import Derived.Test.YtpaffpiaoanegaaLaw10
import Derived.Test.YtpaffpiaoanegaaSteps10
set_option linter.unusedVariables false
set_option linter.unusedSimpArgs false
namespace Go.Proofs.Ytpaffpiaoanegaa
open Go.RowKit

theorem ltB_empty (a : ByteArray) : ¬ ltB a ⟨#[]⟩ := by
  show ¬ a.data.toList < []
  exact List.not_lt_nil _

theorem below_empty (L : List E) : below L ⟨#[]⟩ = 0 := by
  cases L with
  | nil => rfl
  | cons x l => rw [below_cons, if_neg (ltB_empty _)]

theorem runL_all (most : Int) : ∀ (L acc : List E), ((acc.length + L.length : Nat) : Int) ≤ most → (runL ⟨#[]⟩ most L acc).1 = acc ++ L
  | [], acc, _ => by simp [runL]
  | e :: L, acc, h => by
    have hf : fnR ⟨#[]⟩ most acc e = (acc ++ [e], true) := by
      unfold fnR
      rw [if_neg]
      simp only [List.length_cons] at h
      simp only [ne_eq, not_true_eq_false, false_and, or_false]
      omega
    rw [runL_cons, hf]
    simp only [if_true]
    rw [runL_all most L (acc ++ [e]) (by simp only [List.length_append, List.length_cons, List.length_nil] at h ⊢; omega)]
    simp

theorem rangeL_all (L : List E) (h : L.length ≤ 4096) : rangeL L ⟨#[]⟩ ⟨#[]⟩ 4096 = L := by
  unfold rangeL filt
  rw [below_empty, List.drop_zero, runL_all 4096 L [] (by simp; omega)]
  rfl

/-- One step: a delete, or else a put. -/
def stepR (L : List E) (x : StepD) : List E := if x.kind = 1 then delL L x.key else (putR L (x.key, x.n)).1
theorem stepR_len {L : List E} (x : StepD) (h : L.length ≤ 4096) : (stepR L x).length ≤ 4096 := by
  unfold stepR
  split
  · rw [delL_length]; omega
  · exact putR_len h
theorem putR_len1 (L : List E) (e : E) : (putR L e).1.length ≤ L.length + 1 := by
  unfold putR
  split
  · simp
  · split
    · rename_i hh; simp only; rw [putL_length, if_pos hh]; omega
    · split
      · simp
      · rename_i hh hn; simp only; rw [putL_length, if_neg hh]; omega
theorem putR_sorted {L : List E} (hs : Sorted L) (e : E) : Sorted (putR L e).1 := by
  unfold putR
  split
  · exact hs
  · split
    · exact putL_sorted hs e
    · split
      · exact hs
      · exact putL_sorted hs e
theorem stepR_sorted {L : List E} (hs : Sorted L) (x : StepD) : Sorted (stepR L x) := by
  unfold stepR
  split
  · exact delL_sorted hs _
  · exact putR_sorted hs _

/-! ## What is in a list -/

theorem mem_putL {L : List E} (hs : Sorted L) (e x : E) : x ∈ putL L e ↔ x = e ∨ (x ∈ L ∧ x.1 ≠ e.1) := by
  obtain ⟨A, B, hl, hA, h1, h2⟩ := cut_at hs e.1
  have hs' := hs
  unfold putL
  rw [← hA]
  subst hl
  obtain ⟨sA, sB, sAB⟩ := List.pairwise_append.1 hs
  have nA : ∀ a ∈ A, a.1 ≠ e.1 := fun a ha => ltB_ne (h1 a ha)
  split
  · rename_i hh
    rw [List.set_append, if_neg (by omega), Nat.sub_self]
    cases B with
    | nil =>
      unfold here at hh
      rw [decide_eq_true_eq, ← hA, List.getElem?_append_right (Nat.le_refl _), Nat.sub_self] at hh
      cases hh
    | cons b B =>
      have hb : b.1 = e.1 := by
        unfold here at hh
        rw [decide_eq_true_eq, ← hA, List.getElem?_append_right (Nat.le_refl _), Nat.sub_self] at hh
        simpa using hh
      have nB : ∀ y ∈ B, y.1 ≠ e.1 := fun y hy => by have := (List.pairwise_cons.1 sB).1 y hy; rw [hb] at this; exact fun q => ltB_ne this q.symm
      rw [List.set_cons_zero, List.mem_append, List.mem_cons, List.mem_append, List.mem_cons]
      constructor
      · rintro (h | h | h)
        · exact .inr ⟨.inl h, nA x h⟩
        · exact .inl h
        · exact .inr ⟨.inr (.inr h), nB x h⟩
      · rintro (h | ⟨h | h | h, hn⟩)
        · exact .inr (.inl h)
        · exact .inl h
        · subst h; exact absurd hb hn
        · exact .inr (.inr h)
  · rename_i hh
    have hgt : ∀ y ∈ B, y.1 ≠ e.1 := by
      intro y hy he
      exact hh ((here_iff hs' e.1).2 ⟨y, by simp [hy], he⟩)
    rw [List.take_left, List.drop_left, List.mem_append, List.mem_cons, List.mem_append]
    constructor
    · rintro (h | h | h)
      · exact .inr ⟨.inl h, nA x h⟩
      · exact .inl h
      · exact .inr ⟨.inr h, hgt x h⟩
    · rintro (h | ⟨h | h, hn⟩)
      · exact .inr (.inl h)
      · exact .inl h
      · exact .inr (.inr h)

theorem mem_delL {L : List E} (hs : Sorted L) (key : ByteArray) (x : E) : x ∈ delL L key ↔ x ∈ L ∧ x.1 ≠ key := by
  obtain ⟨A, B, hl, hA, h1, h2⟩ := cut_at hs key
  have hs' := hs
  unfold delL
  rw [← hA]
  subst hl
  obtain ⟨sA, sB, sAB⟩ := List.pairwise_append.1 hs
  have nA : ∀ a ∈ A, a.1 ≠ key := fun a ha => ltB_ne (h1 a ha)
  split
  · rename_i hh
    cases B with
    | nil =>
      unfold here at hh
      rw [decide_eq_true_eq, ← hA, List.getElem?_append_right (Nat.le_refl _), Nat.sub_self] at hh
      cases hh
    | cons b B =>
      have hb : b.1 = key := by
        unfold here at hh
        rw [decide_eq_true_eq, ← hA, List.getElem?_append_right (Nat.le_refl _), Nat.sub_self] at hh
        simpa using hh
      have nB : ∀ y ∈ B, y.1 ≠ key := fun y hy => by have := (List.pairwise_cons.1 sB).1 y hy; rw [hb] at this; exact fun q => ltB_ne this q.symm
      have e1 : (A ++ b :: B).drop (A.length + 1) = B := by rw [← List.drop_drop, List.drop_left]; rfl
      rw [List.take_left, e1, List.mem_append, List.mem_append, List.mem_cons]
      constructor
      · rintro (h | h)
        · exact ⟨.inl h, nA x h⟩
        · exact ⟨.inr (.inr h), nB x h⟩
      · rintro ⟨h | h | h, hn⟩
        · exact .inl h
        · subst h; exact absurd hb hn
        · exact .inr h
  · rename_i hh
    constructor
    · intro h
      exact ⟨h, fun he => hh ((here_iff hs' key).2 ⟨x, h, he⟩)⟩
    · exact fun h => h.1

theorem sorted_key {L : List E} (hs : Sorted L) {x y : E} (hx : x ∈ L) (hy : y ∈ L) (he : x.1 = y.1) : x = y := by
  obtain ⟨i, hi, rfl⟩ := List.getElem_of_mem hx
  obtain ⟨j, hj, rfl⟩ := List.getElem_of_mem hy
  have hp := List.pairwise_iff_getElem.1 hs
  rcases Nat.lt_trichotomy i j with h | h | h
  · exact absurd he (ltB_ne (hp i j hi hj h))
  · subst h; rfl
  · exact absurd he.symm (ltB_ne (hp j i hj hi h))

theorem getL_mem {L : List E} (hs : Sorted L) (key : ByteArray) (v : Int) : getL L key = some v ↔ (key, v) ∈ L := by
  constructor
  · intro h
    unfold getL at h
    split at h
    · rename_i hh
      obtain ⟨x, h1, h2, h3⟩ := here_get hh
      rw [getElem!_pos L _ h3] at h
      rw [List.getElem?_eq_getElem h3] at h1
      simp only [Option.some.injEq] at h1 h
      rw [h1] at h
      have hx : x ∈ L := h1 ▸ List.getElem_mem h3
      obtain ⟨a, b⟩ := x
      simp only at h h2
      subst h; subst h2
      exact hx
    · cases h
  · intro h
    obtain ⟨P, S, rfl⟩ := List.append_of_mem h
    exact getL_of hs rfl

theorem getL_none {L : List E} (hs : Sorted L) (key : ByteArray) : getL L key = none ↔ ∀ x ∈ L, x.1 ≠ key := by
  constructor
  · intro h x hx he
    have := (getL_mem hs key x.2).2 (by rw [← he]; exact hx)
    rw [h] at this; cases this
  · intro h
    cases hg : getL L key with
    | none => rfl
    | some v => exact absurd rfl (h _ ((getL_mem hs key v).1 hg))

theorem sorted_ext : ∀ {A B : List E}, Sorted A → Sorted B → (∀ x, x ∈ A ↔ x ∈ B) → A = B
  | [], [], _, _, _ => rfl
  | [], b :: B, _, _, h => by have := (h b).2 (by simp); cases this
  | a :: A, [], _, _, h => by have := (h a).1 (by simp); cases this
  | a :: A, b :: B, ha, hb, h => by
    have h1 := List.pairwise_cons.1 ha
    have h2 := List.pairwise_cons.1 hb
    have e : a = b := by
      rcases List.mem_cons.1 ((h a).1 (by simp)) with e | e
      · exact e
      · rcases List.mem_cons.1 ((h b).2 (by simp)) with f | f
        · exact f.symm
        · exact absurd (h1.1 b f) (ltB_asymm (h2.1 a e))
    subst e
    have ht : A = B := sorted_ext h1.2 h2.2 (fun x => by
      constructor
      · intro hx
        rcases List.mem_cons.1 ((h x).1 (by simp [hx])) with f | f
        · subst f; exact absurd (h1.1 x hx) (ltB_irrefl _)
        · exact f
      · intro hx
        rcases List.mem_cons.1 ((h x).2 (by simp [hx])) with f | f
        · subst f; exact absurd (h2.1 x hx) (ltB_irrefl _)
        · exact f)
    rw [ht]

/-- All keys are short. -/
def Short (L : List E) (n : Nat) : Prop := ∀ x ∈ L, x.1.size ≤ n
theorem Short.putR {L : List E} {n : Nat} (h : Short L n) (hs : Sorted L) {e : E} (he : e.1.size ≤ n) : Short (putR L e).1 n := by
  have hp : Short (putL L e) n := by
    intro x hx
    rcases (mem_putL hs e x).1 hx with h1 | ⟨h1, _⟩
    · rw [h1]; exact he
    · exact h x h1
  unfold Proofs.Ytpaffpiaoanegaa.putR
  split
  · exact h
  · split
    · exact hp
    · split
      · exact h
      · exact hp
theorem Short.put4 {L : List E} (h : Short L 4096) (hs : Sorted L) (e : E) : Short (Proofs.Ytpaffpiaoanegaa.putR L e).1 4096 := by
  by_cases he : e.1.size ≤ 4096
  · exact h.putR hs he
  · unfold Proofs.Ytpaffpiaoanegaa.putR
    rw [if_pos (by omega)]
    exact h
theorem Short.stepR {L : List E} {n : Nat} (h : Short L n) (hs : Sorted L) {x : StepD} (he : x.key.size ≤ n) : Short (stepR L x) n := by
  unfold Proofs.Ytpaffpiaoanegaa.stepR
  split
  · intro y hy; exact h y ((mem_delL hs _ y).1 hy).1
  · exact h.putR hs he

/-! ## From key to key -/

theorem zero_next : ∀ (a b : List UInt8), a < b → ¬ b < a ++ [0]
  | [], [], h => absurd h (List.lt_irrefl _)
  | [], x :: t, _ => by
    intro h
    rw [List.nil_append, List.cons_lt_cons_iff] at h
    rcases h with h | ⟨_, h⟩
    · exact absurd h (by simp)
    · exact absurd h (List.not_lt_nil _)
  | y :: s, [], h => absurd h (List.not_lt_nil _)
  | y :: s, x :: t, h => by
    intro k
    rw [List.cons_append, List.cons_lt_cons_iff] at k
    rw [List.cons_lt_cons_iff] at h
    rcases h with h | ⟨rfl, h⟩
    · rcases k with k | ⟨rfl, k⟩
      · exact absurd (UInt8.lt_trans h k) (UInt8.lt_irrefl _)
      · exact absurd h (UInt8.lt_irrefl _)
    · rcases k with k | ⟨_, k⟩
      · exact absurd k (UInt8.lt_irrefl _)
      · exact zero_next s t h k
theorem zero_above : ∀ (a : List UInt8), a < a ++ [0]
  | [] => by decide
  | y :: s => by rw [List.cons_append, List.cons_lt_cons_iff]; exact .inr ⟨rfl, zero_above s⟩

theorem zed_toList (a : ByteArray) : (a ++ (⟨#[0]⟩ : ByteArray)).data.toList = a.data.toList ++ [0] := by
  rw [ByteArray.data_append, Array.toList_append]

theorem below_self {L : List E} (hs : Sorted L) {i : Nat} {e : E} (h : L[i]? = some e) : below L e.1 = i := by
  obtain ⟨hi, rfl⟩ := List.getElem?_eq_some_iff.1 h
  have hp := List.pairwise_iff_getElem.1 hs
  refine below_is (Nat.le_of_lt hi) (fun j f hj hf => ?_) (fun f hf => ?_)
  · obtain ⟨hjl, rfl⟩ := List.getElem?_eq_some_iff.1 hf
    exact hp j i hjl hi hj
  · rw [List.getElem?_eq_getElem hi] at hf
    cases hf
    exact ltB_irrefl _

theorem below_next {L : List E} (hs : Sorted L) {i : Nat} {e : E} (h : L[i]? = some e) : below L (e.1 ++ (⟨#[0]⟩ : ByteArray)) = i + 1 := by
  obtain ⟨hi, rfl⟩ := List.getElem?_eq_some_iff.1 h
  have hp := List.pairwise_iff_getElem.1 hs
  refine below_is hi (fun j f hj hf => ?_) (fun f hf => ?_)
  · obtain ⟨hjl, rfl⟩ := List.getElem?_eq_some_iff.1 hf
    show _ < _
    rw [zed_toList]
    by_cases hji : j = i
    · subst hji; exact zero_above _
    · exact List.lt_trans (hp j i hjl hi (by omega)) (zero_above _)
  · obtain ⟨hjl, rfl⟩ := List.getElem?_eq_some_iff.1 hf
    show ¬ _ < _
    rw [zed_toList]
    exact zero_next _ _ (hp i (i + 1) hi hjl (by omega))

theorem atL_here {L : List E} {key : ByteArray} {i : Nat} (h : below L key = i) : atL L key none = L[i]? := by
  unfold atL
  rw [h]
  cases L[i]? <;> rfl
theorem befL_here {L : List E} {key : ByteArray} {i : Nat} {e : E} (h : below L key = i + 1) (he : L[i]? = some e) : befL L key none = some e := by
  obtain ⟨hi, rfl⟩ := List.getElem?_eq_some_iff.1 he
  unfold befL
  rw [h, if_pos (by omega), Nat.add_sub_cancel, getElem!_pos L i hi]
theorem befL_none {L : List E} {key : ByteArray} (h : below L key = 0) : befL L key none = none := by
  unfold befL
  rw [h, if_neg (by omega)]

end Go.Proofs.Ytpaffpiaoanegaa
