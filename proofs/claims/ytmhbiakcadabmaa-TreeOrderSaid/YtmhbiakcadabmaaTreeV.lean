/-
  What is proved here: the document's tree (a list of entries by rising keys) as a part of memory; what it answers of a key.
  No condition: each lemma names its own.
-/
import Derived.Test.YtmhbiakcadabmaaTreeU
set_option linter.unusedVariables false
set_option linter.unusedSimpArgs false
namespace Go.Proofs.Ytmhbiakcadabmaa
open Go.RowKit

def refParts (b : Nat) (L : List E) (x : Option Addr × Nat) : List Res :=
  [blkRes b (.cells #[.slice x.1 L.length x.2] 33 (0, 0)), rowRes 50 2 (.slice x.1 L.length x.2) L.length (cellsE L)]
/-- The document's tree of these entries. -/
def refRes (b : Nat) (L : List E) : Res := exRes (refParts b L) (fun _ => True)
def RefAt (W : World) (b : Nat) (L : List E) : Prop := ∃ F, (refRes b L).at' W F

theorem Sep.ref {w W : World} {b : Nat} {L : List E} {l : List Res} (hs : Sep w W (refRes b L :: l)) : RefAt W b L := by
  obtain ⟨F, h, _⟩ := hs.first; exact ⟨F, h⟩
theorem RefAt.only {W W' : World} {b : Nat} {L : List E} (h : RefAt W b L) (ho : Only [] W W') : RefAt W' b L := by
  obtain ⟨F, hf⟩ := h
  exact ⟨F, (refRes b L).only hf ho (by simp)⟩
theorem RefAt.open {W : World} {b : Nat} {L : List E} (h : RefAt W b L) :
    ∃ (p : Option Addr) (q : Nat), W.heap[b]? = some (.cells #[.slice p L.length q] 33 (0, 0)) ∧ W.ownsRow 0 50 2 (.slice p L.length q) L.length (cellsE L) := by
  obtain ⟨F, ⟨p, q⟩, h1, _⟩ := h
  obtain ⟨_, hb⟩ : ∃ G, (blkRes b (.cells #[.slice p L.length q] 33 (0, 0))).at' W G := Parts.mem h1 (by simp [refParts])
  obtain ⟨_, hr⟩ : ∃ G, (rowRes 50 2 (.slice p L.length q) L.length (cellsE L)).at' W G := Parts.mem h1 (by simp [refParts])
  exact ⟨p, q, hb.2, hr.1⟩

theorem cells_at {W : World} {e : TypeId} {p : Option Addr} {n q : Nat} {L : List E} (h : W.ownsRow 0 e 2 (.slice p n q) n (cellsE L)) {j : Nat} {x : E} (hj : L[j]? = some x) :
    ∃ g, p = some ⟨g, 0, none⟩ ∧ W.cell? ⟨g, j * 2, none⟩ = some (.string x.1) ∧ W.cell? ⟨g, j * 2 + 1, none⟩ = some (.int .i64 x.2) ∧ W.frozen? ⟨g, j * 2, none⟩ = false ∧ W.frozen? ⟨g, j * 2 + 1, none⟩ = false := by
  obtain ⟨h1, h2⟩ := cellsE_get hj
  obtain ⟨g, rfl, c1, f1⟩ := ownsRow_cell_of h h1
  obtain ⟨g', he, c2, f2⟩ := ownsRow_cell_of h h2
  cases he
  exact ⟨g, rfl, c1, c2, f1, f2⟩

theorem less_true {a b : ByteArray} (h : ltB a b) : Op.bytesLess a.toList b.toList = true := by rw [Go.Proofs.bytesLess_eq, Lib.toList_data, Lib.toList_data]; exact decide_eq_true h
theorem less_false {a b : ByteArray} (h : ¬ ltB a b) : Op.bytesLess a.toList b.toList = false := by rw [Go.Proofs.bytesLess_eq, Lib.toList_data, Lib.toList_data]; exact decide_eq_false h

set_option maxHeartbeats 1000000 in
theorem rat_any {W : World} {b : Nat} {L : List E} (h : RefAt W b L) (hl : L.length ≤ 100000) (key : ByteArray) :
    Calls Try.prog 31 #[.pointer (some ⟨b, 0, none⟩), .string key] W fun r W' => r = .returned (.int .i64 (below L key)) ∧ W = W' := by
  obtain ⟨p, q, hb, hr⟩ := h.open
  have k0 := cell_of_block hb 0 (v := .slice p L.length q) rfl
  have HR := Lib.hid hr
  have hbl := below_le L key
  clear hb hr h
  go_enter Try.func31, Try.ntmps31
  go_wp2_with fail
  go_loopw [5] (fun s5 wr => ∃ k : Nat, k ≤ below L key ∧ s5 = .int .i64 k ∧ W = wr) (fun s5 _ => below L key - (intOf s5).toNat)
  case atStart => exact ⟨0, Nat.zero_le _, rfl, rfl⟩
  case round =>
    obtain ⟨k, hk, rfl, rfl⟩ := hrel
    by_cases hlt : k < L.length
    · obtain ⟨x, hx⟩ : ∃ x, L[k]? = some x := ⟨_, List.getElem?_eq_getElem hlt⟩
      obtain ⟨g, rfl, c0, c1, _, _⟩ := cells_at HR.out hx
      by_cases hc : k < below L key
      · obtain ⟨e, he, hlt2⟩ := below_lt hc
        rw [hx] at he
        cases he
        have hb1 := less_true hlt2
        clear hx hlt2
        go_wp2_with fail
        go_roundw
        case rel => exact ⟨k + 1, by omega, by go_num, trivial⟩
        case measure => simp [intOf]; omega
      · have hkb : k = below L key := by omega
        have hb1 := less_false (below_at (by rw [← hkb]; exact hx))
        have HKB := Lib.hid hkb
        clear hx hkb
        go_wp2_with fail
        go_ret
        exact ⟨by rw [← HKB.out]; rfl, rfl⟩
    · have hkb : below L key = k := by omega
      have HKB := Lib.hid hkb; clear hkb
      go_wp2_with fail
      go_ret
      exact ⟨by rw [HKB.out]; rfl, rfl⟩

theorem here_at {L : List E} {key : ByteArray} {x : E} (hx : L[below L key]? = some x) : here L key = decide (x.1 = key) := by
  unfold here
  rw [hx]
  simp
theorem here_end {L : List E} {key : ByteArray} (h : ¬ below L key < L.length) : here L key = false := by
  unfold here
  rw [List.getElem?_eq_none (by omega)]
  simp
theorem text_eq {a b : ByteArray} (h : a = b) : (a.toList == b.toList) = true := by rw [h]; simp

set_option maxHeartbeats 1000000 in
theorem rget_any {W : World} {b : Nat} {L : List E} (h : RefAt W b L) (hl : L.length ≤ 100000) (key : ByteArray) :
    Calls Try.prog 21 #[.pointer (some ⟨b, 0, none⟩), .string key] W fun r W' => r = .returned (.tuple #[.int .i64 ((getL L key).getD 0), .bool (getL L key).isSome]) ∧ W = W' := by
  obtain ⟨p, q, hb, hr⟩ := h.open
  have k0 := cell_of_block hb 0 (v := .slice p L.length q) rfl
  have HR := Lib.hid hr
  have H := Lib.hid h
  have hbl := below_le L key
  clear hb hr h
  by_cases hlt : below L key < L.length
  · obtain ⟨x, hx⟩ : ∃ x, L[below L key]? = some x := ⟨_, List.getElem?_eq_getElem hlt⟩
    obtain ⟨g, rfl, c0, c1, _, _⟩ := cells_at HR.out hx
    have hh := here_at hx
    have hg : getL L key = if x.1 = key then some x.2 else none := by
      unfold getL
      rw [hh, getElem!_pos L _ hlt, (List.getElem?_eq_some_iff.1 hx).2]
      simp
    have HG := Lib.hid hg
    clear hx hh hg
    obtain ⟨i, hi⟩ : ∃ i, i = below L key := ⟨_, rfl⟩
    rw [← hi] at hlt hbl c0 c1
    have HI := Lib.hid hi; clear hi
    by_cases he : x.1 = key
    · have ht := text_eq he
      have ht2 : (x.1.toList != key.toList) = false := by rw [bne, ht]; rfl
      have HE := Lib.hid he; clear he
      go_enter Try.func21, Try.ntmps21
      go_wp2_with fail
      refine (rat_any H.out hl key).mono ?_
      rintro r w1 ⟨rfl, rfl⟩
      rw [← HI.out]
      go_wp2_with fail
      go_ret2
      exact ⟨by rw [HG.out, if_pos HE.out]; rfl, rfl⟩
    · have ht := text_ne he
      have ht2 : (x.1.toList != key.toList) = true := by rw [bne, ht]; rfl
      have HE := Lib.hid he; clear he
      go_enter Try.func21, Try.ntmps21
      go_wp2_with fail
      refine (rat_any H.out hl key).mono ?_
      rintro r w1 ⟨rfl, rfl⟩
      rw [← HI.out]
      go_wp2_with fail
      go_ret2
      exact ⟨by rw [HG.out, if_neg HE.out]; rfl, rfl⟩
  · have hg : getL L key = none := by unfold getL; rw [here_end hlt]; rfl
    have HG := Lib.hid hg; clear hg
    have hk : below L key = L.length := by omega
    have HK := Lib.hid hk; clear hk hlt hbl
    go_enter Try.func21, Try.ntmps21
    go_wp2_with fail
    refine (rat_any H.out hl key).mono ?_
    rintro r w1 ⟨rfl, rfl⟩
    rw [HK.out]
    go_wp2_with fail
    go_ret2
    exact ⟨by rw [HG.out]; rfl, rfl⟩

def aggE (o : Option E) : Value := match o with | some e => .agg #[.string e.1, .int .i64 e.2] | none => .agg #[.string ⟨#[]⟩, .int .i64 0]

set_option maxHeartbeats 1000000 in
theorem rAt_any {W : World} {b : Nat} {L : List E} (h : RefAt W b L) (hl : L.length ≤ 100000) (key : ByteArray) :
    Calls Try.prog 38 #[.pointer (some ⟨b, 0, none⟩), .string key] W fun r W' => r = .returned (.tuple #[aggE (atL L key none), .bool (atL L key none).isSome]) ∧ Only [] W W' := by
  obtain ⟨p, q, hb, hr⟩ := h.open
  have hbne : b < W.heap.size := lt_of_block hb
  have H := Lib.hid (h.only (Only.alloc [] W (.cells #[.string ⟨#[]⟩, .int .i64 0] 50)))
  have k0 : (W.alloc (.cells #[.string ⟨#[]⟩, .int .i64 0] 50)).cell? ⟨b, 0, none⟩ = some (.slice p L.length q) := Lib.cell?_alloc_some _ (cell_of_block hb 0 (v := .slice p L.length q) rfl)
  have HR := Lib.hid hr
  have hbl := below_le L key
  clear hb hr h
  have ho : Only [] W (((W.alloc (.cells #[.string ⟨#[]⟩, .int .i64 0] 50)))) := Only.alloc [] W _
  have HO := Lib.hid ho; clear ho
  by_cases hlt : below L key < L.length
  · obtain ⟨x, hx⟩ : ∃ x, L[below L key]? = some x := ⟨_, List.getElem?_eq_getElem hlt⟩
    obtain ⟨g, rfl, c0, c1, _, _⟩ := cells_at HR.out hx
    have hg := block_lt_of_cell c0
    have d0 := (Lib.cell?_alloc_some (.cells #[.string ⟨#[]⟩, .int .i64 0] 50) c0)
    have d1 := (Lib.cell?_alloc_some (.cells #[.string ⟨#[]⟩, .int .i64 0] 50) c1)
    have HV := Lib.hid (show atL L key none = some x from by unfold atL; rw [hx]; rfl)
    clear hx c0 c1
    obtain ⟨i, hi⟩ : ∃ i, i = below L key := ⟨_, rfl⟩
    rw [← hi] at hlt hbl d0 d1
    have HI := Lib.hid hi; clear hi
    go_enter Try.func38, Try.ntmps38
    go_wp2_with fail
    refine (rat_any H.out hl key).mono ?_
    rintro r w1 ⟨rfl, rfl⟩
    rw [← HI.out]
    go_wp2_with fail
    (try simp only [Exit.inBlock, Exit.then])
    refine bodyPost_ret (v := .tuple #[.agg #[.string x.1, .int .i64 x.2], .bool true]) (by simp [results, Try.results38, go_sem]) rfl ⟨by rw [HV.out]; rfl, ?_⟩
    first | exact HO.out | exact Only.alloc [] W _
  · have HV := Lib.hid (show atL L key none = none from by unfold atL; rw [List.getElem?_eq_none (by omega)]; rfl)
    have hk : below L key = L.length := by omega
    have HK := Lib.hid hk; clear hk hlt hbl
    go_enter Try.func38, Try.ntmps38
    go_wp2_with fail
    refine (rat_any H.out hl key).mono ?_
    rintro r w1 ⟨rfl, rfl⟩
    rw [HK.out]
    go_wp2_with fail
    (try simp only [Exit.inBlock, Exit.then])
    refine bodyPost_ret (v := .tuple #[.agg #[.string ⟨#[]⟩, .int .i64 0], .bool false]) (by simp [results, Try.results38, go_sem]) rfl ⟨by rw [HV.out]; rfl, ?_⟩
    first | exact HO.out | exact Only.alloc [] W _

set_option maxHeartbeats 1000000 in
theorem rbef_any {W : World} {b : Nat} {L : List E} (h : RefAt W b L) (hl : L.length ≤ 100000) (key : ByteArray) :
    Calls Try.prog 39 #[.pointer (some ⟨b, 0, none⟩), .string key] W fun r W' => r = .returned (.tuple #[aggE (befL L key none), .bool (befL L key none).isSome]) ∧ Only [] W W' := by
  obtain ⟨p, q, hb, hr⟩ := h.open
  have hbne : b < W.heap.size := lt_of_block hb
  have H := Lib.hid (h.only (Only.alloc [] W (.cells #[.string ⟨#[]⟩, .int .i64 0] 50)))
  have k0 : (W.alloc (.cells #[.string ⟨#[]⟩, .int .i64 0] 50)).cell? ⟨b, 0, none⟩ = some (.slice p L.length q) := Lib.cell?_alloc_some _ (cell_of_block hb 0 (v := .slice p L.length q) rfl)
  have HR := Lib.hid hr
  have hbl := below_le L key
  clear hb hr h
  have ho : Only [] W (((W.alloc (.cells #[.string ⟨#[]⟩, .int .i64 0] 50)))) := Only.alloc [] W _
  have HO := Lib.hid ho; clear ho
  by_cases hlt : 0 < below L key
  · obtain ⟨x, hx⟩ : ∃ x, L[below L key - 1]? = some x := ⟨_, List.getElem?_eq_getElem (by omega)⟩
    obtain ⟨g, rfl, c0, c1, _, _⟩ := cells_at HR.out hx
    have hg := block_lt_of_cell c0
    have d0 := (Lib.cell?_alloc_some (.cells #[.string ⟨#[]⟩, .int .i64 0] 50) c0)
    have d1 := (Lib.cell?_alloc_some (.cells #[.string ⟨#[]⟩, .int .i64 0] 50) c1)
    have HV := Lib.hid (show befL L key none = some x from by unfold befL; rw [if_pos hlt, getElem!_pos L _ (by omega)]; rw [List.getElem?_eq_getElem (by omega)] at hx; exact hx)
    clear hx c0 c1
    obtain ⟨i, hi⟩ : ∃ i, i = below L key := ⟨_, rfl⟩
    rw [← hi] at hlt hbl d0 d1
    have HI := Lib.hid hi; clear hi
    have n1 : ((i : Int) - 1).toNat = i - 1 := by omega
    have n2 : (0 : Int) ≤ (i : Int) - 1 := by omega
    have n3 : i - 1 < L.length := by omega
    have n4 : (i : Int) - 1 < (L.length : Int) := by omega
    go_enter Try.func39, Try.ntmps39
    go_wp2_with fail
    refine (rat_any H.out hl key).mono ?_
    rintro r w1 ⟨rfl, rfl⟩
    rw [← HI.out]
    go_wp2_with fail
    (try simp only [Exit.inBlock, Exit.then])
    refine bodyPost_ret (v := .tuple #[.agg #[.string x.1, .int .i64 x.2], .bool true]) (by simp [results, Try.results39, go_sem]) rfl ⟨by rw [HV.out]; rfl, ?_⟩
    first | exact HO.out | exact Only.alloc [] W _
  · have HV := Lib.hid (show befL L key none = none from by unfold befL; rw [if_neg hlt])
    have hk : below L key = 0 := by omega
    have HK := Lib.hid hk; clear hk hlt hbl
    go_enter Try.func39, Try.ntmps39
    go_wp2_with fail
    refine (rat_any H.out hl key).mono ?_
    rintro r w1 ⟨rfl, rfl⟩
    rw [HK.out, show ((0 : Nat) : Int) = (0 : Int) from rfl]
    go_wp2_with fail
    (try simp only [Exit.inBlock, Exit.then])
    refine bodyPost_ret (v := .tuple #[.agg #[.string ⟨#[]⟩, .int .i64 0], .bool false]) (by simp [results, Try.results39, go_sem]) rfl ⟨by rw [HV.out]; rfl, ?_⟩
    first | exact HO.out | exact Only.alloc [] W _

end Go.Proofs.Ytmhbiakcadabmaa
