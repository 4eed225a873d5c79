/-
  What is said here: the list of all two-byte keys, put one behind the other; with no program in sight.
  No condition: each lemma names its own.
-/
import Derived.Test.YtmhbiakcadabmaaPlayM10
set_option linter.unusedVariables false
set_option linter.unusedSimpArgs false
namespace Go.Proofs.Ytmhbiakcadabmaa
open Go.RowKit

def keyF (i : Nat) : ByteArray := ⟨#[UInt8.ofNat (i / 64), UInt8.ofNat (i % 64)]⟩
def listF (k : Nat) : List E := (List.range k).map (fun i => (keyF i, (i : Int)))
theorem listF_length (k : Nat) : (listF k).length = k := by simp [listF]
theorem listF_succ (k : Nat) : listF (k + 1) = listF k ++ [(keyF k, (k : Int))] := by simp [listF, List.range_succ]

theorem keyF_lt {i j : Nat} (h : i < j) (hj : j < 4096) : ltB (keyF i) (keyF j) := by
  show [UInt8.ofNat (i / 64), UInt8.ofNat (i % 64)] < [UInt8.ofNat (j / 64), UInt8.ofNat (j % 64)]
  rw [List.cons_lt_cons_iff, List.cons_lt_cons_iff]
  by_cases he : i / 64 = j / 64
  · refine .inr ⟨by rw [he], .inl ?_⟩
    rw [UInt8.lt_iff_toNat_lt, UInt8.toNat_ofNat', UInt8.toNat_ofNat']
    omega
  · refine .inl ?_
    rw [UInt8.lt_iff_toNat_lt, UInt8.toNat_ofNat', UInt8.toNat_ofNat']
    omega

theorem keyF_size (i : Nat) : (keyF i).size = 2 := rfl

theorem listF_sorted : ∀ {k : Nat}, k ≤ 4096 → Sorted (listF k)
  | 0, _ => List.Pairwise.nil
  | k + 1, h => by
    rw [listF_succ]
    refine List.pairwise_append.2 ⟨listF_sorted (by omega), by simp, ?_⟩
    intro a ha b hb
    simp only [List.mem_singleton] at hb
    subst hb
    unfold listF at ha
    rw [List.mem_map] at ha
    obtain ⟨i, hi, rfl⟩ := ha
    rw [List.mem_range] at hi
    exact keyF_lt hi (by omega)

theorem listF_below {k : Nat} (h : k < 4096) : below (listF k) (keyF k) = k := by
  refine below_is (by rw [listF_length]; exact Nat.le_refl _) (fun j e hj he => ?_) (fun e he => ?_)
  · unfold listF at he
    rw [List.getElem?_map] at he
    obtain ⟨i, hi, rfl⟩ := Option.map_eq_some_iff.1 he
    rw [List.getElem?_range hj] at hi
    cases hi
    exact keyF_lt hj h
  · rw [List.getElem?_eq_none (by rw [listF_length]; exact Nat.le_refl _)] at he
    cases he

theorem full_put {k : Nat} (h : k < 4096) : putR (listF k) (keyF k, (k : Int)) = (listF (k + 1), true, 0) := by
  have hb := listF_below h
  have hh : here (listF k) (keyF k) = false := by
    unfold here
    rw [hb, List.getElem?_eq_none (by rw [listF_length]; exact Nat.le_refl _)]
    rfl
  unfold putR
  rw [if_neg (by simp only [keyF_size]; omega), if_neg (by simp only [hh]; simp), if_neg (by rw [listF_length]; omega)]
  unfold putL
  rw [if_neg (by simp only [hh]; simp)]
  simp only [hb]
  rw [List.take_of_length_le (by rw [listF_length]; exact Nat.le_refl _), List.drop_eq_nil_of_le (by rw [listF_length]; exact Nat.le_refl _), listF_succ]

theorem full_key {i : Nat} (h : i < 4096) : (keyF i, (i : Int)) ∈ listF 4096 := by
  unfold listF
  exact List.mem_map.2 ⟨i, List.mem_range.2 h, rfl⟩

theorem full_more (n : Int) : putR (listF 4096) (⟨#[109, 111, 114, 101]⟩, n) = (listF 4096, false, 3) := by
  have hh : here (listF 4096) ⟨#[109, 111, 114, 101]⟩ = false := by
    rw [Bool.eq_false_iff]
    intro hc
    obtain ⟨e, he, hk⟩ := (here_iff (listF_sorted (Nat.le_refl _)) _).1 hc
    unfold listF at he
    obtain ⟨i, _, rfl⟩ := List.mem_map.1 he
    have := congrArg ByteArray.size hk
    rw [keyF_size] at this
    exact absurd this (by decide)
  unfold putR
  rw [if_neg (by simp only [ByteArray.size]; decide), if_neg (by simp only [hh]; simp), if_pos (listF_length _)]

/-- All keys, the key 5 put anew. -/
def listG (n : Int) : List E := putL (listF 4096) (keyF 5, n)
theorem full_again (n : Int) : putR (listF 4096) (keyF 5, n) = (listG n, false, 0) := by
  have hh : here (listF 4096) (keyF 5) = true := (here_iff (listF_sorted (Nat.le_refl _)) _).2 ⟨_, full_key (i := 5) (by omega), rfl⟩
  unfold putR
  rw [if_neg (by simp only [keyF_size]; omega), if_pos hh]
  rfl
theorem listG_length (n : Int) : (listG n).length = 4096 := by
  have hh : here (listF 4096) (keyF 5) = true := (here_iff (listF_sorted (Nat.le_refl _)) _).2 ⟨_, full_key (i := 5) (by omega), rfl⟩
  unfold listG
  rw [putL_length, listF_length, if_pos hh]
theorem listG_sorted (n : Int) : Sorted (listG n) := putL_sorted (listF_sorted (Nat.le_refl _)) _
theorem listG_get (n : Int) : getL (listG n) (keyF 5) = some n := (getL_mem (listG_sorted n) _ _).2 ((mem_putL (listF_sorted (Nat.le_refl _)) _ _).2 (.inl rfl))
theorem listG_here (n : Int) : here (listG n) (keyF 6) = true := by
  refine (here_iff (listG_sorted n) _).2 ⟨_, (mem_putL (listF_sorted (Nat.le_refl _)) _ _).2 (.inr ⟨full_key (i := 6) (by omega), ?_⟩), rfl⟩
  exact (ltB_ne (keyF_lt (i := 5) (j := 6) (by omega) (by omega))).symm
theorem listG_del (n : Int) : (delL (listG n) (keyF 6)).length = 4095 := by
  rw [delL_length, listG_length, if_pos (listG_here n)]

end Go.Proofs.Ytmhbiakcadabmaa
