/-
  What is proved here: the document's tree (a list of entries by rising keys) as a part of memory; what it answers of a key.
  No condition: each lemma names its own.
-/
import Derived.Test.YtpaffpiaoanegaaTreeU
set_option linter.unusedVariables false
set_option linter.unusedSimpArgs false
namespace Go.Proofs.Ytpaffpiaoanegaa
open Go.RowKit

def refParts (b : Nat) (L : List E) (x : Option Addr × Nat) : List Res :=
  [blkRes b (.cells #[.slice x.1 L.length x.2] 41 (0, 0)), rowRes 46 2 (.slice x.1 L.length x.2) L.length (cellsE L)]
/-- The document's tree of these entries. -/
def refRes (b : Nat) (L : List E) : Res := exRes (refParts b L) (fun _ => True)
def RefAt (W : World) (b : Nat) (L : List E) : Prop := ∃ F, (refRes b L).at' W F

theorem Sep.ref {w W : World} {b : Nat} {L : List E} {l : List Res} (hs : Sep w W (refRes b L :: l)) : RefAt W b L := by
  obtain ⟨F, h, _⟩ := hs.first; exact ⟨F, h⟩
theorem RefAt.only {W W' : World} {b : Nat} {L : List E} (h : RefAt W b L) (ho : Only [] W W') : RefAt W' b L := by
  obtain ⟨F, hf⟩ := h
  exact ⟨F, (refRes b L).only hf ho (by simp)⟩
theorem RefAt.open {W : World} {b : Nat} {L : List E} (h : RefAt W b L) :
    ∃ (p : Option Addr) (q : Nat), W.heap[b]? = some (.cells #[.slice p L.length q] 41 (0, 0)) ∧ W.ownsRow 0 46 2 (.slice p L.length q) L.length (cellsE L) := by
  obtain ⟨F, ⟨p, q⟩, h1, _⟩ := h
  obtain ⟨_, hb⟩ : ∃ G, (blkRes b (.cells #[.slice p L.length q] 41 (0, 0))).at' W G := Parts.mem h1 (by simp [refParts])
  obtain ⟨_, hr⟩ : ∃ G, (rowRes 46 2 (.slice p L.length q) L.length (cellsE L)).at' W G := Parts.mem h1 (by simp [refParts])
  exact ⟨p, q, hb.2, hr.1⟩

theorem cells_at {W : World} {e : TypeId} {p : Option Addr} {n q : Nat} {L : List E} (h : W.ownsRow 0 e 2 (.slice p n q) n (cellsE L)) {j : Nat} {x : E} (hj : L[j]? = some x) :
    ∃ g, p = some ⟨g, 0, none⟩ ∧ W.cell? ⟨g, j * 2, none⟩ = some (.string x.1) ∧ W.cell? ⟨g, j * 2 + 1, none⟩ = some (.int .i64 x.2) ∧ W.frozen? ⟨g, j * 2, none⟩ = false ∧ W.frozen? ⟨g, j * 2 + 1, none⟩ = false := by
  obtain ⟨h1, h2⟩ := cellsE_get hj
  obtain ⟨g, rfl, c1, f1⟩ := ownsRow_cell_of h h1
  obtain ⟨g', he, c2, f2⟩ := ownsRow_cell_of h h2
  cases he
  exact ⟨g, rfl, c1, c2, f1, f2⟩

theorem less_true {a b : ByteArray} (h : ltB a b) : Op.bytesLess a.toList b.toList = true := by rw [Go.Proofs.bytesLess_eq, Lib.toList_data, Lib.toList_data]; exact decide_eq_true h
theorem less_false {a b : ByteArray} (h : ¬ ltB a b) : Op.bytesLess a.toList b.toList = false := by rw [Go.Proofs.bytesLess_eq, Lib.toList_data, Lib.toList_data]; exact decide_eq_false h

set_option maxHeartbeats 1000000 in
theorem rat_any {W : World} {b : Nat} {L : List E} (h : RefAt W b L) (hl : L.length ≤ 100000) (key : ByteArray) :
    Calls Try.prog 32 #[.pointer (some ⟨b, 0, none⟩), .string key] W fun r W' => r = .returned (.int .i64 (below L key)) ∧ W = W' := by
  obtain ⟨p, q, hb, hr⟩ := h.open
  have k0 := cell_of_block hb 0 (v := .slice p L.length q) rfl
  have HR := Lib.hid hr
  have hbl := below_le L key
  clear hb hr h
  go_enter Try.func32, Try.ntmps32
  go_wp2_with fail
  go_loopw [5] (fun s5 wr => ∃ k : Nat, k ≤ below L key ∧ s5 = .int .i64 k ∧ W = wr) (fun s5 _ => below L key - (intOf s5).toNat)
  case atStart => exact ⟨0, Nat.zero_le _, rfl, rfl⟩
  case round =>
    obtain ⟨k, hk, rfl, rfl⟩ := hrel
    by_cases hlt : k < L.length
    · obtain ⟨x, hx⟩ : ∃ x, L[k]? = some x := ⟨_, List.getElem?_eq_getElem hlt⟩
      obtain ⟨g, rfl, c0, c1, _, _⟩ := cells_at HR.out hx
      by_cases hc : k < below L key
      · obtain ⟨e, he, hlt2⟩ := below_lt hc
        rw [hx] at he
        cases he
        have hb1 := less_true hlt2
        clear hx hlt2
        go_wp2_with fail
        go_roundw
        case rel => exact ⟨k + 1, by omega, by go_num, trivial⟩
        case measure => simp [intOf]; omega
      · have hkb : k = below L key := by omega
        have hb1 := less_false (below_at (by rw [← hkb]; exact hx))
        have HKB := Lib.hid hkb
        clear hx hkb
        go_wp2_with fail
        go_ret
        exact ⟨by rw [← HKB.out]; rfl, rfl⟩
    · have hkb : below L key = k := by omega
      have HKB := Lib.hid hkb; clear hkb
      go_wp2_with fail
      go_ret
      exact ⟨by rw [HKB.out]; rfl, rfl⟩

theorem here_at {L : List E} {key : ByteArray} {x : E} (hx : L[below L key]? = some x) : here L key = decide (x.1 = key) := by
  unfold here
  rw [hx]
  simp
theorem here_end {L : List E} {key : ByteArray} (h : ¬ below L key < L.length) : here L key = false := by
  unfold here
  rw [List.getElem?_eq_none (by omega)]
  simp
theorem text_eq {a b : ByteArray} (h : a = b) : (a.toList == b.toList) = true := by rw [h]; simp

def aggE (o : Option E) : Value := match o with | some e => .agg #[.string e.1, .int .i64 e.2] | none => .agg #[.string ⟨#[]⟩, .int .i64 0]

end Go.Proofs.Ytpaffpiaoanegaa
