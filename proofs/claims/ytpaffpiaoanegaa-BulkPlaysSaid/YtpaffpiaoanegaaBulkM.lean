/-
  What is said here: keys that come some at a time, with no program in sight: the error, and what is there behind it.
  No condition: each lemma names its own.
-/
import Derived.Test.YtpaffpiaoanegaaTreeJ
set_option linter.unusedVariables false
set_option linter.unusedSimpArgs false
namespace Go.Proofs.Ytpaffpiaoanegaa
open Go.RowKit

/-- The last key. -/
def lastK (L : List E) : Option ByteArray := L.getLast?.map Prod.fst
def lastS (L : List E) : ByteArray := (lastK L).getD ⟨#[]⟩
/-- Do the keys rise, behind a last one? -/
def ordB : Option ByteArray → List E → Bool
  | _, [] => true
  | none, e :: l => ordB (some e.1) l
  | some k, e :: l => decide (ltB k e.1) && ordB (some e.1) l
def longB (l : List E) : Bool := l.any (fun e => decide (4096 < e.1.size))
/-- What adding leaves, and tells. -/
def addR (L l : List E) : List E × Int := if longB l = true then (L, 2) else if ordB (lastK L) l = false then (L, 110) else if 4096 < L.length + l.length then (L, 3) else (L ++ l, 0)

theorem lastK_snoc (L : List E) (e : E) : lastK (L ++ [e]) = some e.1 := by simp [lastK]
theorem lastK_nil : lastK [] = none := rfl
theorem lastK_none {L : List E} : lastK L = none ↔ L = [] := by
  unfold lastK
  rw [Option.map_eq_none_iff, List.getLast?_eq_none_iff]

theorem sorted_snoc {L : List E} (hs : Sorted L) (e : E) : Sorted (L ++ [e]) ↔ (match lastK L with | none => True | some k => ltB k e.1) := by
  rcases List.eq_nil_or_concat L with rfl | ⟨M, x, rfl⟩
  · simp [lastK_nil]
  · rw [List.concat_eq_append] at hs ⊢
    rw [lastK_snoc]
    simp only
    constructor
    · intro h
      exact (List.pairwise_append.1 h).2.2 x (by simp) e (by simp)
    · intro h
      refine List.pairwise_append.2 ⟨hs, by simp, fun a ha b hb => ?_⟩
      simp only [List.mem_singleton] at hb
      subst hb
      rcases List.mem_append.1 ha with h1 | h1
      · exact ltB_trans ((List.pairwise_append.1 hs).2.2 a h1 x (by simp)) h
      · simp only [List.mem_singleton] at h1
        subst h1; exact h

theorem ord_sorted : ∀ (l : List E) {L : List E}, Sorted L → (ordB (lastK L) l = true ↔ Sorted (L ++ l))
  | [], L, hs => by simp only [List.append_nil]; exact ⟨fun _ => hs, fun _ => by cases lastK L <;> rfl⟩
  | e :: l, L, hs => by
    have he : L ++ e :: l = (L ++ [e]) ++ l := by simp
    have hc := sorted_snoc hs e
    have hsub : Sorted (L ++ e :: l) → Sorted (L ++ [e]) := by
      intro h; rw [he] at h; exact (List.pairwise_append.1 h).1
    cases hk : lastK L with
    | none =>
      rw [hk] at hc
      have h1 := ord_sorted l (hc.2 trivial)
      rw [lastK_snoc] at h1
      rw [he]
      exact h1
    | some k =>
      rw [hk] at hc
      simp only at hc
      show (decide (ltB k e.1) && ordB (some e.1) l) = true ↔ _
      rw [Bool.and_eq_true, decide_eq_true_eq]
      constructor
      · rintro ⟨h1, h2⟩
        have h3 := ord_sorted l (hc.2 h1)
        rw [lastK_snoc] at h3
        rw [he]
        exact h3.1 h2
      · intro h
        have h1 := hsub h
        refine ⟨hc.1 h1, ?_⟩
        have h3 := ord_sorted l h1
        rw [lastK_snoc] at h3
        rw [he] at h
        exact h3.2 h

theorem addR_sorted {L l : List E} (hs : Sorted L) : Sorted (addR L l).1 := by
  unfold addR
  split
  · exact hs
  · split
    · exact hs
    · split
      · exact hs
      · rename_i h _
        exact (ord_sorted l hs).1 (by simpa using h)
theorem addR_len {L l : List E} (h : L.length ≤ 4096) : (addR L l).1.length ≤ 4096 := by
  unfold addR
  split
  · exact h
  · split
    · exact h
    · split
      · exact h
      · rw [List.length_append]; omega

theorem putL_end {L : List E} {e : E} (h : Sorted (L ++ [e])) : here L e.1 = false ∧ putL L e = L ++ [e] := by
  have hA := (List.pairwise_append.1 h).2.2
  have hb : below L e.1 = L.length := by
    have := below_app (A := L) (key := e.1) (fun x hx => hA x hx e (by simp)) []
    rw [List.append_nil] at this
    rw [this]; rfl
  have hh : here L e.1 = false := by
    unfold here
    rw [hb, List.getElem?_eq_none (Nat.le_refl _)]
    rfl
  refine ⟨hh, ?_⟩
  unfold putL
  rw [if_neg (by rw [hh]; simp), hb, List.take_length, List.drop_length]

theorem sorted_takes {L l : List E} (h : Sorted (L ++ l)) {i : Nat} {e : E} (he : l[i]? = some e) : Sorted ((L ++ l.take i) ++ [e]) := by
  have h1 : (L ++ l.take i) ++ [e] = L ++ l.take (i + 1) := by rw [List.take_add_one, he, List.append_assoc]; rfl
  rw [h1]
  exact h.sublist (List.Sublist.append_left (List.take_sublist _ _) _)

end Go.Proofs.Ytpaffpiaoanegaa
