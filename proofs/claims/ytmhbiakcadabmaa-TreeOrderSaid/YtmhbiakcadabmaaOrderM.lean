/-
  What is said here: keys put in any order, others coming and going between, leave the same list; with no program in sight.
  No condition: each lemma names its own.
-/
import Derived.Test.YtmhbiakcadabmaaPlayM10
set_option linter.unusedVariables false
set_option linter.unusedSimpArgs false
namespace Go.Proofs.Ytmhbiakcadabmaa
open Go.RowKit

theorem putR_eq {B : List E} {e : E} (h : e.1.size ≤ 4096) (hc : B.length < 4096) : (putR B e).1 = putL B e := by
  unfold putR
  rw [if_neg (by omega)]
  split
  · rfl
  · rw [if_neg (by omega)]
theorem putL_len1 (B : List E) (e : E) : (putL B e).length ≤ B.length + 1 := by
  rw [putL_length]; split <;> omega

/-- A key that comes and goes, from the j-th on. -/
def Odd (other : List ByteArray) (n j : Nat) (k : ByteArray) : Prop := ∃ i, j ≤ i ∧ i < n ∧ other[i]? = some k ∧ k.size < 1000
structure Inv2 (O : List E) (other : List ByteArray) (n i : Nat) (B : List E) : Prop where
  sorted : Sorted B
  len : B.length ≤ 2 * i
  mem : ∀ x : E, Odd other n 0 x.1 ∨ (x ∈ B ↔ x ∈ O.take i)
structure Mid2 (O : List E) (other : List ByteArray) (n i : Nat) (B : List E) : Prop where
  sorted : Sorted B
  len : B.length ≤ 2 * i + 1
  mem : ∀ x : E, Odd other n 0 x.1 ∨ (x ∈ B ↔ x ∈ O.take i)
structure Inv3 (L : List E) (other : List ByteArray) (n j : Nat) (B : List E) : Prop where
  sorted : Sorted B
  len : B.length ≤ 2 * n + j
  mem : ∀ x : E, Odd other n j x.1 ∨ (x ∈ B ↔ x ∈ L)

theorem Inv2.nil (O : List E) (other : List ByteArray) (n : Nat) : Inv2 O other n 0 [] := ⟨List.Pairwise.nil, by simp, fun x => .inr (by simp)⟩
theorem Inv2.skip {O : List E} {other : List ByteArray} {n i : Nat} {B : List E} (h : Inv2 O other n i B) : Mid2 O other n i B := ⟨h.sorted, by have := h.len; omega, h.mem⟩
theorem Inv2.odd {O : List E} {other : List ByteArray} {n i : Nat} {B : List E} (h : Inv2 O other n i B) {k : ByteArray} (hi : i < n) (hk : other[i]? = some k) (hs : k.size < 1000) (v : Int) : Mid2 O other n i (putL B (k, v)) := by
  refine ⟨putL_sorted h.sorted _, by have := h.len; have := putL_len1 B (k, v); omega, fun x => ?_⟩
  by_cases hx : x.1 = k
  · exact .inl ⟨i, Nat.zero_le _, hi, by rw [hx]; exact hk, by rw [hx]; exact hs⟩
  · rcases h.mem x with h1 | h1
    · exact .inl h1
    · refine .inr ?_
      rw [mem_putL h.sorted]
      constructor
      · rintro (h2 | ⟨h2, _⟩)
        · exact absurd (congrArg Prod.fst h2) hx
        · exact h1.1 h2
      · exact fun h2 => .inr ⟨h1.2 h2, hx⟩

theorem Mid2.put {O : List E} {other : List ByteArray} {n i : Nat} {B : List E} (h : Mid2 O other n i B) {e : E} (he : O[i]? = some e) (hk : (O.map Prod.fst).Nodup) : Inv2 O other n (i + 1) (putL B e) := by
  refine ⟨putL_sorted h.sorted _, by have := h.len; have := putL_len1 B e; omega, fun x => ?_⟩
  rcases h.mem x with h1 | h1
  · exact .inl h1
  · refine .inr ?_
    have hne : ∀ y ∈ O.take i, y.1 ≠ e.1 := by
      intro y hy heq
      obtain ⟨j, hj, rfl⟩ := List.getElem_of_mem hy
      rw [List.length_take] at hj
      obtain ⟨hi, rfl⟩ := List.getElem?_eq_some_iff.1 he
      have := (List.pairwise_iff_getElem.1 hk) j i (by rw [List.length_map]; omega) (by rw [List.length_map]; omega) (by omega)
      rw [List.getElem_map, List.getElem_map] at this
      rw [List.getElem_take] at heq
      exact this heq
    rw [mem_putL h.sorted, List.take_add_one, he, List.mem_append]
    constructor
    · rintro (h2 | ⟨h2, _⟩)
      · exact .inr (by rw [h2]; simp)
      · exact .inl (h1.1 h2)
    · rintro (h2 | h2)
      · exact .inr ⟨h1.2 h2, hne x h2⟩
      · simp only [Option.toList_some, List.mem_singleton] at h2
        exact .inl h2

theorem Inv2.turn {O L : List E} {other : List ByteArray} {n : Nat} {B : List E} (h : Inv2 O other n n B) (hn : O.length = n) (hp : O.Perm L) : Inv3 L other n 0 B := by
  refine ⟨h.sorted, by have := h.len; omega, fun x => ?_⟩
  rcases h.mem x with h1 | h1
  · exact .inl h1
  · rw [List.take_of_length_le (by omega)] at h1
    exact .inr (h1.trans hp.mem_iff)

theorem Inv3.skip {L : List E} {other : List ByteArray} {n j : Nat} {B : List E} (h : Inv3 L other n j B) {k : ByteArray} (hk : other[j]? = some k) (hs : ¬ k.size < 1000) : Inv3 L other n (j + 1) B := by
  refine ⟨h.sorted, by have := h.len; omega, fun x => ?_⟩
  rcases h.mem x with ⟨i, h1, h2, h3, h4⟩ | h1
  · by_cases hij : i = j
    · subst hij
      rw [hk] at h3
      cases h3
      exact absurd h4 hs
    · exact .inl ⟨i, by omega, h2, h3, h4⟩
  · exact .inr h1

theorem Inv3.put {L : List E} {other : List ByteArray} {n j : Nat} {B : List E} (h : Inv3 L other n j B) (hL : Sorted L) {k : ByteArray} {v : Int} (hk : other[j]? = some k) (hg : getL L k = some v) : Inv3 L other n (j + 1) (putL B (k, v)) := by
  refine ⟨putL_sorted h.sorted _, by have := h.len; have := putL_len1 B (k, v); omega, fun x => ?_⟩
  have hm := (getL_mem hL k v).1 hg
  by_cases hx : x.1 = k
  · refine .inr ?_
    rw [mem_putL h.sorted]
    constructor
    · rintro (h2 | ⟨_, h2⟩)
      · rw [h2]; exact hm
      · exact absurd hx h2
    · exact fun h2 => .inl (sorted_key hL h2 hm hx)
  · rcases h.mem x with ⟨i, h1, h2, h3, h4⟩ | h1
    · by_cases hij : i = j
      · subst hij
        rw [hk] at h3
        cases h3
        exact absurd rfl hx
      · exact .inl ⟨i, by omega, h2, h3, h4⟩
    · refine .inr ?_
      rw [mem_putL h.sorted]
      constructor
      · rintro (h2 | ⟨h2, _⟩)
        · exact absurd (congrArg Prod.fst h2) hx
        · exact h1.1 h2
      · exact fun h2 => .inr ⟨h1.2 h2, hx⟩

theorem Inv3.del {L : List E} {other : List ByteArray} {n j : Nat} {B : List E} (h : Inv3 L other n j B) (hL : Sorted L) {k : ByteArray} (hk : other[j]? = some k) (hg : getL L k = none) : Inv3 L other n (j + 1) (delL B k) := by
  refine ⟨delL_sorted h.sorted _, by have := h.len; rw [delL_length]; omega, fun x => ?_⟩
  have hm := (getL_none hL k).1 hg
  by_cases hx : x.1 = k
  · refine .inr ?_
    rw [mem_delL h.sorted]
    constructor
    · rintro ⟨_, h2⟩
      exact absurd hx h2
    · exact fun h2 => absurd hx (hm x h2)
  · rcases h.mem x with ⟨i, h1, h2, h3, h4⟩ | h1
    · by_cases hij : i = j
      · subst hij
        rw [hk] at h3
        cases h3
        exact absurd rfl hx
      · exact .inl ⟨i, by omega, h2, h3, h4⟩
    · refine .inr ?_
      rw [mem_delL h.sorted]
      exact ⟨fun h2 => h1.1 h2.1, fun h2 => ⟨h1.2 h2, hx⟩⟩

theorem Inv3.done {L : List E} {other : List ByteArray} {n j : Nat} {B : List E} (h : Inv3 L other n j B) (hL : Sorted L) (hj : n ≤ j ∨ other.length ≤ j) : B = L := by
  refine sorted_ext h.sorted hL (fun x => ?_)
  rcases h.mem x with ⟨i, h1, h2, h3, _⟩ | h1
  · exfalso
    have := (List.getElem?_eq_some_iff.1 h3).1
    omega
  · exact h1

theorem sorted_nodup {L : List E} (h : Sorted L) : (L.map Prod.fst).Nodup := by
  refine List.pairwise_map.2 ?_
  exact h.imp (fun hab => ltB_ne hab)

/-- Two places changed. -/
def swapL (O : List E) (x y : Nat) : List E := (O.set x (O.getD y (⟨#[]⟩, 0))).set y (O.getD x (⟨#[]⟩, 0))
theorem swap_perm {O : List E} {x y : Nat} (hx : x < O.length) (hy : y < O.length) : (swapL O x y).Perm O := by
  unfold swapL
  rw [List.getD_eq_getElem?_getD, List.getD_eq_getElem?_getD, List.getElem?_eq_getElem hx, List.getElem?_eq_getElem hy]
  exact List.set_set_perm hx hy

end Go.Proofs.Ytmhbiakcadabmaa
