/-
  What is said here: entries by rising keys, and trees of nodes, with no program in sight: where a key stands, putting, splitting; that a tree's entries stay in order.
  No condition.
-/
import Derived.Test.YtpaffpiaoanegaaKit
set_option linter.unusedVariables false
set_option linter.unusedSimpArgs false
namespace Go.Proofs.Ytpaffpiaoanegaa

abbrev E := ByteArray × Int
abbrev ltB (a b : ByteArray) : Prop := a.data.toList < b.data.toList

theorem ltB_irrefl (a : ByteArray) : ¬ ltB a a := List.lt_irrefl _
theorem ltB_trans {a b c : ByteArray} (h : ltB a b) (k : ltB b c) : ltB a c := List.lt_trans h k
theorem ltB_tri {a b : ByteArray} (h : ¬ ltB a b) (k : ¬ ltB b a) : a = b := by
  have e : a.data.toList = b.data.toList := List.le_antisymm (by simpa using k) (by simpa using h)
  cases a; cases b
  simp only [ByteArray.mk.injEq]
  exact Array.toList_inj.1 e
theorem ltB_asymm {a b : ByteArray} (h : ltB a b) : ¬ ltB b a := fun k => ltB_irrefl a (ltB_trans h k)
theorem ltB_ne {a b : ByteArray} (h : ltB a b) : a ≠ b := fun e => ltB_irrefl a (by rw [e] at h ⊢; exact h)

abbrev Sorted (l : List E) : Prop := l.Pairwise (fun a b => ltB a.1 b.1)

/-- How many entries at the start are below a key. -/
def below (l : List E) (key : ByteArray) : Nat := (l.takeWhile (fun e => decide (ltB e.1 key))).length
/-- Does the key stand there? -/
def here (l : List E) (key : ByteArray) : Bool := decide ((l[below l key]?.map (·.1)) = some key)

theorem below_le (l : List E) (key : ByteArray) : below l key ≤ l.length := by
  unfold below
  exact (List.takeWhile_sublist _).length_le

theorem below_cons (x : E) (l : List E) (key : ByteArray) : below (x :: l) key = if ltB x.1 key then below l key + 1 else 0 := by
  unfold below
  rw [List.takeWhile_cons]
  by_cases h : ltB x.1 key <;> simp [h]

theorem below_app {A : List E} {key : ByteArray} (hA : ∀ x ∈ A, ltB x.1 key) (M : List E) : below (A ++ M) key = A.length + below M key := by
  induction A with
  | nil => simp
  | cons x A ih =>
    rw [List.cons_append, below_cons, if_pos (hA x (by simp)), ih (fun y hy => hA y (by simp [hy]))]
    simp; omega

theorem below_end {B : List E} {key : ByteArray} (hB : ∀ x ∈ B, ¬ ltB x.1 key) (M : List E) : below (M ++ B) key = below M key := by
  induction M with
  | nil =>
    cases B with
    | nil => rfl
    | cons b B => rw [List.nil_append, below_cons, if_neg (hB b (by simp))]; rfl
  | cons x M ih =>
    rw [List.cons_append, below_cons, below_cons, ih]

/-- Who is below, and who is not. -/
theorem below_lt {l : List E} {key : ByteArray} {j : Nat} (h : j < below l key) : ∃ e, l[j]? = some e ∧ ltB e.1 key := by
  induction l generalizing j with
  | nil => simp [below] at h
  | cons x l ih =>
    rw [below_cons] at h
    split at h
    · cases j with
      | zero => exact ⟨x, rfl, by assumption⟩
      | succ j => simpa using ih (j := j) (by omega)
    · omega
theorem below_at {l : List E} {key : ByteArray} {e : E} (h : l[below l key]? = some e) : ¬ ltB e.1 key := by
  induction l with
  | nil => simp at h
  | cons x l ih =>
    rw [below_cons] at h
    split at h
    · exact ih (by simpa using h)
    · simp at h; subst h; assumption

theorem below_is {l : List E} {key : ByteArray} {i : Nat} (hi : i ≤ l.length) (h1 : ∀ j e, j < i → l[j]? = some e → ltB e.1 key) (h2 : ∀ e, l[i]? = some e → ¬ ltB e.1 key) : below l key = i := by
  rcases Nat.lt_trichotomy (below l key) i with h | h | h
  · have hl : below l key < l.length := by omega
    exact absurd (h1 _ _ h (List.getElem?_eq_getElem hl)) (below_at (List.getElem?_eq_getElem hl))
  · exact h
  · obtain ⟨e, h3, h4⟩ := below_lt h
    exact absurd h4 (h2 e h3)

theorem sorted_ge {l : List E} (hs : Sorted l) {key : ByteArray} {i j : Nat} {e f : E} (hij : i ≤ j) (h1 : l[i]? = some e) (h2 : l[j]? = some f) (h3 : ¬ ltB e.1 key) : ¬ ltB f.1 key := by
  rcases Nat.eq_or_lt_of_le hij with h | h
  · subst h; rw [h1] at h2; cases h2; exact h3
  · have hj := (List.getElem?_eq_some_iff.1 h2)
    have hi := (List.getElem?_eq_some_iff.1 h1)
    have := List.pairwise_iff_getElem.1 hs i j hi.1 hj.1 h
    rw [hi.2, hj.2] at this
    exact fun k => h3 (ltB_trans this k)

/-- Cut at a key: what is below it, and what is not. -/
theorem cut_at {l : List E} (hs : Sorted l) (key : ByteArray) : ∃ A B, l = A ++ B ∧ A.length = below l key ∧ (∀ x ∈ A, ltB x.1 key) ∧ (∀ x ∈ B, ¬ ltB x.1 key) := by
  refine ⟨l.take (below l key), l.drop (below l key), (List.take_append_drop _ _).symm, ?_, ?_, ?_⟩
  · rw [List.length_take]; have := below_le l key; omega
  · intro x hx
    obtain ⟨j, hj, rfl⟩ := List.getElem_of_mem hx
    rw [List.length_take] at hj
    obtain ⟨e, h1, h2⟩ := below_lt (l := l) (key := key) (j := j) (by omega)
    rw [List.getElem_take]
    rw [List.getElem?_eq_getElem (by omega)] at h1
    cases h1; exact h2
  · intro x hx
    obtain ⟨j, hj, rfl⟩ := List.getElem_of_mem hx
    rw [List.length_drop] at hj
    rw [List.getElem_drop]
    refine sorted_ge hs (i := below l key) (j := below l key + j) (by omega) (List.getElem?_eq_getElem (by omega)) (List.getElem?_eq_getElem (by omega)) (below_at (List.getElem?_eq_getElem (by omega)))

theorem here_iff {l : List E} (hs : Sorted l) (key : ByteArray) : here l key = true ↔ ∃ e ∈ l, e.1 = key := by
  unfold here
  rw [decide_eq_true_eq]
  constructor
  · intro h
    cases hb : l[below l key]? with
    | none => rw [hb] at h; cases h
    | some e => rw [hb] at h; exact ⟨e, List.mem_of_getElem? hb, by simpa using h⟩
  · rintro ⟨e, he, rfl⟩
    obtain ⟨A, B, hl, hA, h1, h2⟩ := cut_at hs e.1
    rw [← hA, hl]
    rw [hl] at he hs
    rcases List.mem_append.1 he with h | h
    · exact absurd (h1 e h) (ltB_irrefl _)
    · rw [List.getElem?_append_right (Nat.le_refl _), Nat.sub_self]
      cases B with
      | nil => cases h
      | cons b B =>
        rcases List.mem_cons.1 h with h | h
        · subst h; rfl
        · exfalso
          have h3 := (List.pairwise_append.1 hs).2.1
          exact h2 b (by simp) ((List.pairwise_cons.1 h3).1 e h)

/-- Putting, and taking away, in a list. -/
def putL (l : List E) (e : E) : List E := if here l e.1 then l.set (below l e.1) e else l.take (below l e.1) ++ e :: l.drop (below l e.1)
def delL (l : List E) (key : ByteArray) : List E := if here l key then l.take (below l key) ++ l.drop (below l key + 1) else l

theorem here_mid {A M B : List E} {key : ByteArray} (hA : ∀ x ∈ A, ltB x.1 key) (hB : ∀ x ∈ B, ltB key x.1) : here (A ++ M ++ B) key = here M key := by
  have hB' : ∀ x ∈ B, ¬ ltB x.1 key := fun x hx => ltB_asymm (hB x hx)
  unfold here
  rw [List.append_assoc, below_app hA, below_end hB', List.getElem?_append_right (by omega), show A.length + below M key - A.length = below M key by omega]
  congr 1
  by_cases h : below M key < M.length
  · rw [List.getElem?_append_left h]
  · rw [List.getElem?_eq_none (l := M) (by omega), List.getElem?_append_right (by omega)]
    apply propext
    constructor
    · intro h1
      exfalso
      cases hb : B[below M key - M.length]? with
      | none => rw [hb] at h1; cases h1
      | some b =>
        rw [hb] at h1
        simp only [Option.map_some, Option.some.injEq] at h1
        exact ltB_ne (hB b (List.mem_of_getElem? hb)) h1.symm
    · intro h1; cases h1

theorem putL_mid {A M B : List E} {e : E} (hA : ∀ x ∈ A, ltB x.1 e.1) (hB : ∀ x ∈ B, ltB e.1 x.1) : putL (A ++ M ++ B) e = A ++ putL M e ++ B := by
  have hB' : ∀ x ∈ B, ¬ ltB x.1 e.1 := fun x hx => ltB_asymm (hB x hx)
  have hle := below_le M e.1
  unfold putL
  rw [here_mid hA hB, List.append_assoc, below_app hA, below_end hB']
  split
  · rename_i hh
    have hlt : below M e.1 < M.length := by
      unfold here at hh
      rw [decide_eq_true_eq] at hh
      cases hm : M[below M e.1]? with
      | none => rw [hm] at hh; cases hh
      | some _ => exact (List.getElem?_eq_some_iff.1 hm).1
    rw [List.set_append, if_neg (by omega), show A.length + below M e.1 - A.length = below M e.1 by omega, List.set_append, if_pos hlt, List.append_assoc]
  · rw [List.take_append, List.drop_append, List.take_of_length_le (l := A) (by omega), List.drop_of_length_le (l := A) (by omega), show A.length + below M e.1 - A.length = below M e.1 by omega,
      List.take_append_of_le_length hle, List.drop_append_of_le_length hle]
    simp

theorem delL_mid {A M B : List E} {key : ByteArray} (hA : ∀ x ∈ A, ltB x.1 key) (hB : ∀ x ∈ B, ltB key x.1) : delL (A ++ M ++ B) key = A ++ delL M key ++ B := by
  have hB' : ∀ x ∈ B, ¬ ltB x.1 key := fun x hx => ltB_asymm (hB x hx)
  have hle := below_le M key
  unfold delL
  rw [here_mid hA hB, List.append_assoc, below_app hA, below_end hB']
  split
  · rename_i hh
    have hlt : below M key < M.length := by
      unfold here at hh
      rw [decide_eq_true_eq] at hh
      cases hm : M[below M key]? with
      | none => rw [hm] at hh; cases hh
      | some _ => exact (List.getElem?_eq_some_iff.1 hm).1
    rw [List.take_append, List.drop_append, List.take_of_length_le (l := A) (by omega), List.drop_of_length_le (l := A) (by omega), show A.length + below M key - A.length = below M key by omega, show A.length + below M key + 1 - A.length = below M key + 1 by omega,
      List.take_append_of_le_length hle, List.drop_append_of_le_length (by omega)]
    simp
  · rw [List.append_assoc]

theorem putL_sorted {l : List E} (hs : Sorted l) (e : E) : Sorted (putL l e) := by
  obtain ⟨A, B, hl, hA, h1, h2⟩ := cut_at hs e.1
  unfold putL
  rw [← hA]
  subst hl
  obtain ⟨sA, sB, sAB⟩ := List.pairwise_append.1 hs
  split
  · rename_i hh
    rw [List.set_append, if_neg (by omega), Nat.sub_self]
    cases B with
    | nil => simpa using hs
    | cons b B =>
      have hb : b.1 = e.1 := by
        unfold here at hh
        rw [decide_eq_true_eq, ← hA, List.getElem?_append_right (Nat.le_refl _), Nat.sub_self] at hh
        simpa using hh
      rw [List.set_cons_zero]
      refine List.pairwise_append.2 ⟨sA, List.pairwise_cons.2 ⟨fun x hx => by have := (List.pairwise_cons.1 sB).1 x hx; rwa [hb] at this, (List.pairwise_cons.1 sB).2⟩, fun a ha x hx => ?_⟩
      rcases List.mem_cons.1 hx with h | h
      · subst h; exact h1 a ha
      · exact sAB a ha x (by simp [h])
  · rename_i hh
    rw [List.take_left, List.drop_left]
    have hgt : ∀ x ∈ B, ltB e.1 x.1 := by
      intro x hx
      refine Decidable.byContradiction fun hc => hh ?_
      exact (here_iff hs e.1).2 ⟨x, by simp [hx], ltB_tri (h2 x hx) hc⟩
    refine List.pairwise_append.2 ⟨sA, List.pairwise_cons.2 ⟨hgt, sB⟩, fun a ha x hx => ?_⟩
    rcases List.mem_cons.1 hx with h | h
    · subst h; exact h1 a ha
    · exact sAB a ha x h

theorem delL_sublist (l : List E) (key : ByteArray) : (delL l key).Sublist l := by
  unfold delL
  split
  · have h1 : (l.take (below l key) ++ l.drop (below l key + 1)).Sublist (l.take (below l key) ++ l.drop (below l key)) := List.Sublist.append_left (by rw [← List.drop_drop]; exact List.drop_sublist _ _) _
    rw [List.take_append_drop] at h1
    exact h1
  · exact List.Sublist.refl _
theorem delL_sorted {l : List E} (hs : Sorted l) (key : ByteArray) : Sorted (delL l key) := hs.sublist (delL_sublist l key)

end Go.Proofs.Ytpaffpiaoanegaa
