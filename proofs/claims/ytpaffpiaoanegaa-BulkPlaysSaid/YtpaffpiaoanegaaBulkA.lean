/-
  What is proved here: a bulk in memory; New, Len, Last, Done.
  No condition: each lemma names its own.
-/
import Derived.Test.YtpaffpiaoanegaaBulkO
import Derived.Test.YtpaffpiaoanegaaBulkM
import Derived.Test.YtpaffpiaoanegaaTreeRr
import Derived.Test.YtpaffpiaoanegaaTreeN
import Derived.Test.YtpaffpiaoanegaaSteps10
set_option linter.unusedVariables false
set_option linter.unusedSimpArgs false
namespace Go.Proofs.Ytpaffpiaoanegaa
open Go.RowKit

def bulkCells (t : Nat) (k : ByteArray) (d : Int) (o : Bool) : Array Value := #[.pointer (some ⟨t, 0, none⟩), .string k, .int .u32 d, .int .i32 0, .int .u32 0, .bool o]
def bulkParts (g fan : Nat) (L : List E) (d : Int) (o : Bool) (t : Nat) : List Res := [blkRes g (.cells (bulkCells t (lastS L) d o) 77 (0, 0)), treeRes t fan L]
theorem Sep.sortedL {w W : World} {q fan : Nat} {L : List E} {l : List Res} (hs : Sep w W (treeRes q fan L :: l)) : Sorted L := by
  obtain ⟨p, h, t, _, _, hr, hL, _, _⟩ := hs.tree.open
  rw [← hL]
  exact hr.sorted

/-- A bulk of the fan, with these entries; d: was Done called (1), or not (0). -/
def bulkRes (g fan : Nat) (L : List E) (d : Int) (o : Bool) : Res := exRes (bulkParts g fan L d o) (fun _ => True)

def BulkAt (W : World) (g fan : Nat) (L : List E) (o : Bool) : Prop := ∃ t d, W.heap[g]? = some (.cells (bulkCells t (lastS L) d o) 77 (0, 0)) ∧ TreeAt W t fan L
theorem Sep.bulk {w W : World} {g fan : Nat} {L : List E} {d : Int} {o : Bool} {l : List Res} (hs : Sep w W (bulkRes g fan L d o :: l)) : BulkAt W g fan L o := by
  obtain ⟨t, hs1, _⟩ := hs.open
  simp only [bulkParts, List.cons_append, List.nil_append] at hs1
  exact ⟨t, d, hs1.blk, hs1.up1.tree⟩
theorem BulkAt.only {W W' : World} {g fan : Nat} {L : List E} {o : Bool} (h : BulkAt W g fan L o) (ho : Only [] W W') : BulkAt W' g fan L o := by
  obtain ⟨t, d, hb, ht⟩ := h
  exact ⟨t, d, ho.keeps hb (by simp), ht.only ho⟩

set_option maxRecDepth 100000 in
theorem bnew_bad {W : World} (fan : Int) (h : fan < 3 ∨ 64 < fan) :
    Calls Try.prog 13 #[.int .i64 fan] W fun r W' => r = .returned (.tuple #[.pointer none, .int .i64 1]) ∧ W = W' := by
  have HN := Lib.hid (new_bad (W := W) fan h); clear h
  go_enter Try.func13, Try.ntmps13
  go_wp2_with fail
  refine HN.out.mono ?_
  rintro r w1 ⟨rfl, rfl⟩
  go_wp2_with fail
  go_ret2
  exact ⟨rfl, rfl⟩

set_option maxRecDepth 100000 in
theorem bnew_any {w W : World} {l : List Res} (hs : Sep w W l) (fan : Nat) (h3 : 3 ≤ fan) (h64 : fan ≤ 64) :
    Calls Try.prog 13 #[.int .i64 fan] W fun r W' => ∃ g, r = .returned (.tuple #[.pointer (some ⟨g, 0, none⟩), .int .i64 0]) ∧ Sep w W' (bulkRes g fan [] 0 false :: l) := by
  have HN := Lib.hid (new_any hs fan h3 h64)
  go_enter Try.func13, Try.ntmps13
  go_wp2_with fail
  refine HN.out.mono ?_
  rintro r w1 ⟨t, rfl, hs1⟩
  have HS1 := Lib.hid hs1; clear hs1 HN
  go_wp2_with fail
  go_ret2
  refine ⟨_, rfl, ?_⟩
  have h := HS1.out.alloc (bulkCells t ⟨#[]⟩ 0 false) 77
  exact Sep.close (ps := bulkParts w1.heap.size fan [] 0 false) t h trivial

set_option maxRecDepth 100000 in
theorem blen_any {W : World} {g fan : Nat} {L : List E} {o : Bool} (h : BulkAt W g fan L o) :
    Calls Try.prog 10 #[.pointer (some ⟨g, 0, none⟩)] W fun r W' => r = .returned (.int .i64 L.length) ∧ W = W' := by
  obtain ⟨t, d, hb, ht⟩ := h
  have c0 := cell_of_block hb 0 (v := .pointer (some ⟨t, 0, none⟩)) rfl
  have HT := Lib.hid ht; clear ht hb
  go_enter Try.func10, Try.ntmps10
  go_wp2_with fail
  refine (len_any HT.out).mono ?_
  rintro r w1 ⟨rfl, rfl⟩
  go_wp2_with fail
  go_ret
  exact ⟨rfl, rfl⟩

set_option maxRecDepth 100000 in
theorem blast_any {W : World} {g fan : Nat} {L : List E} {o : Bool} (h : BulkAt W g fan L o) (hl : L.length ≤ 4096) :
    Calls Try.prog 7 #[.pointer (some ⟨g, 0, none⟩)] W fun r W' => r = .returned (.tuple #[.string (lastS L), .bool (lastK L).isSome]) ∧ W = W' := by
  obtain ⟨t, d, hb, ht⟩ := h
  have c0 := cell_of_block hb 0 (v := .pointer (some ⟨t, 0, none⟩)) rfl
  have c1 := cell_of_block hb 1 (v := .string (lastS L)) rfl
  have HT := Lib.hid ht; clear ht hb
  by_cases h0 : L = []
  · subst h0
    go_enter Try.func7, Try.ntmps7
    go_wp2_with fail
    refine (len_any HT.out).mono ?_
    rintro r w1 ⟨rfl, rfl⟩
    simp only [List.length_nil]
    go_wp2_with fail
    go_ret2
    exact ⟨rfl, rfl⟩
  · have hk : (lastK L).isSome = true := by
      cases hq : lastK L with
      | none => exact absurd (lastK_none.1 hq) h0
      | some k => rfl
    have hn : ((L.length : Int) == 0) = false := by rw [beq_eq_false_iff_ne]; intro hc; exact h0 (List.eq_nil_of_length_eq_zero (by omega))
    have hn2 : (L.length == 0) = false := by rw [beq_eq_false_iff_ne]; intro hc; exact h0 (List.eq_nil_of_length_eq_zero hc)
    rw [hk]
    clear hk h0
    go_enter Try.func7, Try.ntmps7
    go_wp2_with fail
    refine (len_any HT.out).mono ?_
    rintro r w1 ⟨rfl, rfl⟩
    go_wp2_with fail
    go_ret2
    exact ⟨rfl, rfl⟩

end Go.Proofs.Ytpaffpiaoanegaa
