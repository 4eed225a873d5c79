/-
  What is proved here: the document's tree: putting a key, taking one away.
  No condition: each lemma names its own.
-/
import Derived.Test.YtpaffpiaoanegaaTreeV
import Derived.Test.YtpaffpiaoanegaaTreeS
import Derived.Test.YtpaffpiaoanegaaTreeU
import Derived.Deep.DeepCutAuto
import Derived.Deep.RegionHeld3
set_option linter.unusedVariables false
set_option linter.unusedSimpArgs false
namespace Go.Proofs.Ytpaffpiaoanegaa
open Go.RowKit

theorem Try.infoREnt : (Try.prog.info? 46).map (fun i => (i.zero, i.size, i.bytes)) = some (some (.agg #[.string ⟨#[]⟩, .int .i64 0]), 2, 24) := by kernel_rfl

theorem rput_long {W : World} {b : Nat} (key : ByteArray) (n : Int) (h : 4096 < key.size) :
    Calls Try.prog 12 #[.pointer (some ⟨b, 0, none⟩), .string key, .int .i64 n] W fun r W' => r = .returned (.tuple #[.bool false, .int .i64 2]) ∧ W = W' := by
  have h' : (4096 : Int) < (key.size : Int) := by omega
  go_enter Try.func12, Try.ntmps12
  go_wp2_with fail
  go_ret2
  exact ⟨rfl, rfl⟩

theorem here_get {L : List E} {key : ByteArray} (h : here L key = true) : ∃ x, L[below L key]? = some x ∧ x.1 = key ∧ below L key < L.length := by
  obtain ⟨A, k, B, h1, h2, h3⟩ := kd_of_here h
  have hx : L[below L key]? = some k := by rw [← h2]; conv => lhs; rw [h1]
                                           rw [List.getElem?_append_right (Nat.le_refl _), Nat.sub_self]; rfl
  exact ⟨k, hx, h3, (List.getElem?_eq_some_iff.1 hx).1⟩
theorem here_not {L : List E} {key : ByteArray} {x : E} (h : here L key = false) (hx : L[below L key]? = some x) : x.1 ≠ key := by
  rw [here_at hx] at h
  simpa using h

theorem cellsE_set2 (l : List E) (i : Nat) (x : E) (n : Int) (h : l[i]? = some x) : (cellsE l).set (i * 2 + 1) (.int .i64 n) = cellsE (l.set i (x.1, n)) := by
  rw [← cellsE_set]
  obtain ⟨h1, h2⟩ := List.getElem?_eq_some_iff.1 (cellsE_get h).1
  congr 1
  simp only
  conv => rhs; arg 3; rw [← h2]
  rw [List.set_getElem_self]

set_option maxHeartbeats 1000000 in
theorem rput_here {w W : World} {l : List Res} {b : Nat} {L : List E} (hs : Sep w W (refRes b L :: l)) (key : ByteArray) (n : Int) (hkey : key.size ≤ 4096) (hl : L.length ≤ 100000) (hh : here L key = true) :
    Calls Try.prog 12 #[.pointer (some ⟨b, 0, none⟩), .string key, .int .i64 n] W fun r W' => r = .returned (.tuple #[.bool false, .int .i64 0]) ∧ Sep w W' (refRes b (putL L (key, n)) :: l) := by
  have h' : ¬ ((4096 : Int) < (key.size : Int)) := by omega
  have HRA := Lib.hid hs.ref
  obtain ⟨⟨p, q⟩, hs1, _⟩ := hs.open
  simp only [refParts, List.cons_append, List.nil_append] at hs1
  have k0 := cell_of_block hs1.blk 0 (v := .slice p L.length q) rfl
  obtain ⟨x, hx, hxk, hlt⟩ := here_get hh
  obtain ⟨g, rfl, c0, c1, f0, f1⟩ := cells_at hs1.up1.row hx
  have ht := text_eq hxk
  have hst := (hs1.up1.rowStore (below L key * 2 + 1) (.int .i64 n)).up1
  rw [cellsE_set2 L _ x n hx, hxk] at hst
  have HF := Lib.hid (show Sep w (W.setCell ⟨g, below L key * 2 + 1, none⟩ (.int .i64 n)) (refRes b (putL L (key, n)) :: l) from by
    unfold putL
    rw [if_pos hh]
    have hll : (L.set (below L key) (key, n)).length = L.length := List.length_set
    refine Sep.close (ps := refParts b (L.set (below L key) (key, n))) (some ⟨g, 0, none⟩, q) ?_ trivial
    simp only [refParts, List.cons_append, List.nil_append]
    rw [hll]
    exact hst)
  obtain ⟨i, hi⟩ : ∃ i, i = below L key := ⟨_, rfl⟩
  rw [← hi] at hlt c0 c1 f0 f1 HF
  have HI := Lib.hid hi
  clear hs hs1 hst hx hxk hi hh
  go_enter Try.func12, Try.ntmps12
  go_wp2_with fail
  refine (rat_any HRA.out hl key).mono ?_
  rintro r w1 ⟨rfl, rfl⟩
  rw [← HI.out]
  go_wp2_with fail
  go_ret2
  exact ⟨rfl, HF.out⟩

set_option maxRecDepth 100000 in
theorem rput_many {W : World} {b : Nat} {L : List E} (hr : RefAt W b L) (key : ByteArray) (n : Int) (hkey : key.size ≤ 4096) (hl : L.length = 4096) (hh : here L key = false) :
    Calls Try.prog 12 #[.pointer (some ⟨b, 0, none⟩), .string key, .int .i64 n] W fun r W' => r = .returned (.tuple #[.bool false, .int .i64 3]) ∧ W = W' := by
  have h' : ¬ ((4096 : Int) < (key.size : Int)) := by omega
  have HRA := Lib.hid hr
  obtain ⟨p, q, hb, hrow⟩ := hr.open
  have k0 := cell_of_block hb 0 (v := .slice p L.length q) rfl
  rw [hl] at k0
  have HK := Lib.hid k0
  have HL := Lib.hid hl
  by_cases hlt : below L key < L.length
  · obtain ⟨x, hx⟩ : ∃ x, L[below L key]? = some x := ⟨_, List.getElem?_eq_getElem hlt⟩
    obtain ⟨g, rfl, c0, c1, f0, f1⟩ := cells_at hrow hx
    have ht := text_ne (here_not hh hx)
    rw [hl] at hlt
    obtain ⟨i, hi⟩ : ∃ i, i = below L key := ⟨_, rfl⟩
    rw [← hi] at hlt c0 c1
    have HI := Lib.hid hi
    clear hr hb hrow hx hi hh hl
    go_enter Try.func12, Try.ntmps12
    go_wp2_with fail
    refine (rat_any HRA.out (by have := HL.out; omega) key).mono ?_
    rintro r w1 ⟨rfl, rfl⟩
    rw [← HI.out]
    go_wp2_with fail
    go_ret2
    exact ⟨rfl, rfl⟩
  · have hk : below L key = 4096 := by have := below_le L key; omega
    have HKK := Lib.hid hk
    clear hr hb hrow hh hl hk hlt
    go_enter Try.func12, Try.ntmps12
    go_wp2_with fail
    refine (rat_any HRA.out (by have := HL.out; omega) key).mono ?_
    rintro r w1 ⟨rfl, rfl⟩
    rw [HKK.out]
    go_wp2_with fail
    go_ret2
    exact ⟨rfl, rfl⟩

theorem cells_takes {W : World} {e : TypeId} {p : Option Addr} {n q : Nat} {ks : List E} (h : W.ownsRow 0 e 2 (.slice p n q) n (cellsE ks)) (a : Nat) : ∀ j u, (cellsE (ks.take a))[j]? = some u → ∃ b o, p = some ⟨b, o, none⟩ ∧ W.cell? ⟨b, o + j, none⟩ = some u := by
  intro j u hu
  rw [← cellsE_take, List.getElem?_take] at hu
  split at hu
  · obtain ⟨g, h1, h2, _⟩ := ownsRow_cell_of h hu
    exact ⟨g, 0, h1, by rw [Nat.zero_add]; exact h2⟩
  · cases hu
theorem cells_drops {W : World} {e : TypeId} {g n q : Nat} {ks : List E} (h : W.ownsRow 0 e 2 (.slice (some ⟨g, 0, none⟩) n q) n (cellsE ks)) (a : Nat) : ∀ j u, (cellsE (ks.drop a))[j]? = some u → ∃ b o, some (⟨g, a * 2, none⟩ : Addr) = some ⟨b, o, none⟩ ∧ W.cell? ⟨b, o + j, none⟩ = some u := by
  intro j u hu
  rw [← cellsE_drop, List.getElem?_drop] at hu
  obtain ⟨g', h1, h2, _⟩ := ownsRow_cell_of h hu
  cases h1
  exact ⟨g, a * 2, rfl, h2⟩
theorem no_cells {W : World} {p : Option Addr} : ∀ j u, (cellsE [])[j]? = some u → ∃ b o, p = some (⟨b, o, none⟩ : Addr) ∧ W.cell? ⟨b, o + j, none⟩ = some u := by
  intro j u hu; simp [cellsE] at hu
theorem ent_one' (e : E) : ∀ u ∈ (#[Value.string e.1, Value.int .i64 e.2] : Array Value).toList, u.oneCell' = true := by intro u hu; simp at hu; rcases hu with h | h <;> subst h <;> rfl

theorem rdel_not {W : World} {b : Nat} {L : List E} (hr : RefAt W b L) (key : ByteArray) (hl : L.length ≤ 100000) (hh : here L key = false) :
    Calls Try.prog 24 #[.pointer (some ⟨b, 0, none⟩), .string key] W fun r W' => r = .returned (.bool false) ∧ W = W' := by
  have HRA := Lib.hid hr
  obtain ⟨p, q, hb, hrow⟩ := hr.open
  have k0 := cell_of_block hb 0 (v := .slice p L.length q) rfl
  by_cases hlt : below L key < L.length
  · obtain ⟨x, hx⟩ : ∃ x, L[below L key]? = some x := ⟨_, List.getElem?_eq_getElem hlt⟩
    obtain ⟨g, rfl, c0, c1, f0, f1⟩ := cells_at hrow hx
    have ht := text_ne (here_not hh hx)
    have ht2 : (x.1.toList != key.toList) = true := by rw [bne, ht]; rfl
    obtain ⟨i, hi⟩ : ∃ i, i = below L key := ⟨_, rfl⟩
    rw [← hi] at hlt c0 c1
    have HI := Lib.hid hi
    clear hr hb hrow hx hi hh
    go_enter Try.func24, Try.ntmps24
    go_wp2_with fail
    refine (rat_any HRA.out hl key).mono ?_
    rintro r w1 ⟨rfl, rfl⟩
    rw [← HI.out]
    go_wp2_with fail
    go_ret
    exact ⟨rfl, rfl⟩
  · have hk : below L key = L.length := by have := below_le L key; omega
    have HKK := Lib.hid hk
    clear hr hb hrow hh hk hlt
    go_enter Try.func24, Try.ntmps24
    go_wp2_with fail
    refine (rat_any HRA.out hl key).mono ?_
    rintro r w1 ⟨rfl, rfl⟩
    rw [HKK.out]
    go_wp2_with fail
    go_ret
    exact ⟨rfl, rfl⟩

set_option maxRecDepth 100000 in
set_option maxHeartbeats 4000000 in
theorem rdel_s {w W : World} {l : List Res} {b g q i : Nat} {L : List E} {key : ByteArray} (hr : RefAt W b L) (hi : i = below L key) (hs1 : Sep w W (blkRes b (.cells #[.slice (some ⟨g, 0, none⟩) L.length q] 41 (0, 0)) :: rowRes 46 2 (.slice (some ⟨g, 0, none⟩) L.length q) (L.length) (cellsE L) :: l)) (hl : L.length ≤ 100000) (hh : here L key = true) (hiq : i + 1 < q) (hql : L.length ≤ q) :
    Calls Try.prog 24 #[.pointer (some ⟨b, 0, none⟩), .string key] W fun r W' => r = .returned (.bool true) ∧ Sep w W' (refRes b (delL L key) :: l) := by
  obtain ⟨ie, IE⟩ := info_of Try.infoREnt
  have HRA := Lib.hid hr
  obtain ⟨x, hx, hxk, hlt⟩ := here_get hh
  rw [← hi] at hx hlt
  obtain ⟨_, he, c0, c1, f0, f1⟩ := cells_at hs1.up1.row hx
  cases he
  have ht := text_eq hxk
  have ht2 : (x.1.toList != key.toList) = false := by rw [bne, ht]; rfl
  have hll : (L.take i ++ L.drop (i + 1)).length = L.length - 1 := by simp only [List.length_append, List.length_take, List.length_drop]; omega
  have HF : Hid (∀ (W2 : World) (p2 : Option Addr) (q2 m : Nat) (xs : List Value), m = L.length - 1 → xs = cellsE (L.take i ++ L.drop (i + 1)) → Sep w W2 (blkRes b (.cells #[.slice p2 m q2] 41 (0, 0)) :: rowRes 46 2 (.slice p2 m q2) m xs :: l) → Sep w W2 (refRes b (delL L key) :: l)) := by
    intro W2 p2 q2 m xs hm hx h2
    subst hm hx
    unfold delL
    rw [if_pos hh, ← hi]
    refine Sep.close (ps := refParts b (L.take i ++ L.drop (i + 1))) (p2, q2) ?_ trivial
    simp only [refParts, List.cons_append, List.nil_append]
    rw [hll]
    exact h2
  have HI := Lib.hid hi
  have HL := Lib.hid hl
  have hqi : ¬ (q = i + 1) := by omega
  have hiq2 : i ≤ q := by omega
  have hiq3 : i + 1 ≤ q := by omega
  have hiq4 : i + 1 ≤ L.length := by omega
  have hiq5 : i ≤ L.length := by omega
  have hiq6 : (i : Int) + 1 ≤ (L.length : Int) := by omega
  have hne : ¬ ((i : Int) = (L.length : Int)) := by omega
  have k0 := cell_of_block hs1.blk 0 (v := .slice (some ⟨g, 0, none⟩) L.length q) rfl
  have HS := Lib.hid hs1
  have HM0 : Hid (Sep w (W.alloc (.cells #[] 46)).drew (rowRes 46 2 (.slice (some ⟨W.heap.size, 0, none⟩) 0 0) (0) ([]) :: blkRes b (.cells #[.slice (some ⟨g, 0, none⟩) L.length q] 41 (0, 0)) :: rowRes 46 2 (.slice (some ⟨g, 0, none⟩) L.length q) (L.length) (cellsE L) :: l)) := (HS.out.row_made 46 2).drew
  have ka0 : (W.alloc (.cells #[] 46)).cell? ⟨b, 0, none⟩ = some (.slice (some ⟨g, 0, none⟩) L.length q) := Lib.cell?_alloc_some _ k0
  have SHM0 := Lib.hid (cells_takes (HM0.out.rowOf (e := 46) (size := 2) (v := .slice (some ⟨g, 0, none⟩) L.length q) (n := L.length) (xs := cellsE L) (by simp)) i)
  have mixed : Try.prog.follows .mixedOrders = true := by kernel_rfl
  have hw1 : IntKind.i64.wrap ((i : Int) + 1) = (i : Int) + 1 := IntWalk.i64_in _ (by omega)
  have hw2 : (0 : Int) ≤ (i : Int) + 1 := by omega
  have hw3 : ((i : Int) + 1).toNat = i + 1 := by omega
  clear hr hs1 hh hll hi hx hxk
  go_enter Try.func24, Try.ntmps24
  go_wp2_with fail
  refine (rat_any HRA.out HL.out key).mono ?_
  rintro r w1 ⟨rfl, rfl⟩
  rw [← HI.out]
  go_upto_region 4 with fail
  go_cut [] (fun wx => Sep w wx (refRes b (delL L key) :: l))
  case first =>
    have HT1 := Lib.hid (cellsE_one (L.take i))
    have HD1 := Lib.hid (cellsE_one (L.drop (i + 1)))
    clear c0 c1
    go_wp2_with fail
    go_region_law (first | (refine step_append_src (w := w) (e := 46) rfl (.tmp 29) (.tmp 35) 39 rfl ie _ 2 24 Try.underlying39 IE.out rfl (by decide) (.slice (some ⟨W.heap.size, 0, none⟩) 0 0) 0 [] rfl (some ⟨g, 0, none⟩) i q (cellsE (L.take i)) rfl (by rw [cellsE_length, List.length_take]; omega) SHM0.out HT1.out HM0.out (by unfold maxLen; omega) (by omega) ?_; intro p4 q4 w4 hs4; rw [Nat.zero_add, List.nil_append] at hs4; rw [Nat.zero_add]; have HS4 := Lib.hid hs4; clear hs4; have kn4 := cell_of_block (HS4.out.up1.blk) 0 (v := .slice (some ⟨g, 0, none⟩) L.length q) rfl) | (refine step_append_src (w := w) (e := 46) rfl (.tmp 36) (.tmp 43) 39 rfl ie _ 2 24 Try.underlying39 IE.out rfl (by decide) (.slice p4 i q4) i (cellsE (L.take i)) rfl (some ⟨g, (i + 1) * 2, none⟩) (L.length - (i + 1)) (q - (i + 1)) (cellsE (L.drop (i + 1))) rfl (by rw [cellsE_length, List.length_drop]) (cells_drops (HS4.out.up2.row) (i + 1)) HD1.out HS4.out (by unfold maxLen; omega) (by omega) ?_; intro p6 q6 w6 hs6; have HS6 := Lib.hid hs6; clear hs6; have kn7 := cell_of_block (HS6.out.up1.blk) 0 (v := .slice (some ⟨g, 0, none⟩) L.length q) rfl; have fn7 := free_of_block (HS6.out.up1.blk) 0))
    all_goals
      go_wp2_with fail
      go_meet
      exact HF.out _ _ _ _ _ (by omega) (by rw [cellsE_append]) ((HS6.out.up2.tail).up1.store 0 _)
  case rest =>
    obtain ⟨V2, hV2⟩ : ∃ V2 : World, V2 = wc := ⟨_, rfl⟩
    rw [← hV2] at hcut ⊢
    clear hV2
    have HC := Lib.hid hcut; clear hcut
    go_wp2_with fail
    go_ret
    exact ⟨rfl, HC.out⟩

set_option maxRecDepth 100000 in
set_option maxHeartbeats 4000000 in
theorem rdel_e {w W : World} {l : List Res} {b g q i : Nat} {L : List E} {key : ByteArray} (hr : RefAt W b L) (hi : i = below L key) (hs1 : Sep w W (blkRes b (.cells #[.slice (some ⟨g, 0, none⟩) (i + 1) (i + 1)] 41 (0, 0)) :: rowRes 46 2 (.slice (some ⟨g, 0, none⟩) (i + 1) (i + 1)) ((i + 1)) (cellsE L) :: l)) (hl : L.length ≤ 100000) (hh : here L key = true) (hil : L.length = i + 1) :
    Calls Try.prog 24 #[.pointer (some ⟨b, 0, none⟩), .string key] W fun r W' => r = .returned (.bool true) ∧ Sep w W' (refRes b (delL L key) :: l) := by
  obtain ⟨ie, IE⟩ := info_of Try.infoREnt
  have HRA := Lib.hid hr
  obtain ⟨x, hx, hxk, hlt⟩ := here_get hh
  rw [← hi] at hx hlt
  obtain ⟨_, he, c0, c1, f0, f1⟩ := cells_at hs1.up1.row hx
  cases he
  have ht := text_eq hxk
  have ht2 : (x.1.toList != key.toList) = false := by rw [bne, ht]; rfl
  have hll : (L.take i ++ L.drop (i + 1)).length = L.length - 1 := by simp only [List.length_append, List.length_take, List.length_drop]; omega
  have HF : Hid (∀ (W2 : World) (p2 : Option Addr) (q2 m : Nat) (xs : List Value), m = L.length - 1 → xs = cellsE (L.take i ++ L.drop (i + 1)) → Sep w W2 (blkRes b (.cells #[.slice p2 m q2] 41 (0, 0)) :: rowRes 46 2 (.slice p2 m q2) m xs :: l) → Sep w W2 (refRes b (delL L key) :: l)) := by
    intro W2 p2 q2 m xs hm hx h2
    subst hm hx
    unfold delL
    rw [if_pos hh, ← hi]
    refine Sep.close (ps := refParts b (L.take i ++ L.drop (i + 1))) (p2, q2) ?_ trivial
    simp only [refParts, List.cons_append, List.nil_append]
    rw [hll]
    exact h2
  have HI := Lib.hid hi
  have HL := Lib.hid hl
  have HIL := Lib.hid hil
  have hi2 : i ≤ 100000 := by omega
  have hiq2 : i ≤ i + 1 := by omega
  have hiq6 : (i : Int) ≤ (i : Int) + 1 := by omega
  have k0 := cell_of_block hs1.blk 0 (v := .slice (some ⟨g, 0, none⟩) (i + 1) (i + 1)) rfl
  have HS := Lib.hid hs1
  have HM0 : Hid (Sep w (W.alloc (.cells #[] 46)).drew (rowRes 46 2 (.slice (some ⟨W.heap.size, 0, none⟩) 0 0) (0) ([]) :: blkRes b (.cells #[.slice (some ⟨g, 0, none⟩) (i + 1) (i + 1)] 41 (0, 0)) :: rowRes 46 2 (.slice (some ⟨g, 0, none⟩) (i + 1) (i + 1)) ((i + 1)) (cellsE L) :: l)) := (HS.out.row_made 46 2).drew
  have ka0 : (W.alloc (.cells #[] 46)).cell? ⟨b, 0, none⟩ = some (.slice (some ⟨g, 0, none⟩) (i + 1) (i + 1)) := Lib.cell?_alloc_some _ k0
  have SHM0 := Lib.hid (cells_takes (HM0.out.rowOf (e := 46) (size := 2) (v := .slice (some ⟨g, 0, none⟩) (i + 1) (i + 1)) (n := (i + 1)) (xs := cellsE L) (by simp)) i)
  have mixed : Try.prog.follows .mixedOrders = true := by kernel_rfl
  have hw1 : IntKind.i64.wrap ((i : Int) + 1) = (i : Int) + 1 := IntWalk.i64_in _ (by omega)
  have hw2 : (0 : Int) ≤ (i : Int) + 1 := by omega
  have hw3 : ((i : Int) + 1).toNat = i + 1 := by omega
  clear hr hs1 hh hll hi hx hxk hil
  go_enter Try.func24, Try.ntmps24
  go_wp2_with fail
  refine (rat_any HRA.out HL.out key).mono ?_
  rintro r w1 ⟨rfl, rfl⟩
  rw [← HI.out]
  go_upto_region 4 with fail
  go_cut [] (fun wx => Sep w wx (refRes b (delL L key) :: l))
  case first =>
    have HT1 := Lib.hid (cellsE_one (L.take i))
    have HD1 := Lib.hid (cellsE_one (L.drop (i + 1)))
    clear c0 c1
    go_wp2_with fail
    go_region_law (first | (refine step_append_src (w := w) (e := 46) rfl (.tmp 29) (.tmp 35) 39 rfl ie _ 2 24 Try.underlying39 IE.out rfl (by decide) (.slice (some ⟨W.heap.size, 0, none⟩) 0 0) 0 [] rfl (some ⟨g, 0, none⟩) i (i + 1) (cellsE (L.take i)) rfl (by rw [cellsE_length, List.length_take]; omega) SHM0.out HT1.out HM0.out (by unfold maxLen; omega) (by omega) ?_; intro p4 q4 w4 hs4; rw [Nat.zero_add, List.nil_append] at hs4; rw [Nat.zero_add]; have HS4 := Lib.hid hs4; clear hs4; have kn4 := cell_of_block (HS4.out.up1.blk) 0 (v := .slice (some ⟨g, 0, none⟩) (i + 1) (i + 1)) rfl) | (refine step_append_src (w := w) (e := 46) rfl (.tmp 36) (.tmp 43) 39 rfl ie _ 2 24 Try.underlying39 IE.out rfl (by decide) (.slice p4 i q4) i (cellsE (L.take i)) rfl (some ⟨g, 0, none⟩) 0 0 (cellsE []) rfl rfl no_cells (cellsE_one []) HS4.out (by unfold maxLen; omega) (by omega) ?_; intro p6 q6 w6 hs6; have HS6 := Lib.hid hs6; clear hs6; have kn7 := cell_of_block (HS6.out.up1.blk) 0 (v := .slice (some ⟨g, 0, none⟩) (i + 1) (i + 1)) rfl; have fn7 := free_of_block (HS6.out.up1.blk) 0))
    all_goals
      go_wp2_with fail
      go_meet
      exact HF.out _ _ _ _ _ (by have := HIL.out; omega) (by rw [show L.drop (i + 1) = [] from List.drop_of_length_le (by have := HIL.out; omega)]; simp [cellsE]) ((HS6.out.up2.tail).up1.store 0 _)
  case rest =>
    obtain ⟨V2, hV2⟩ : ∃ V2 : World, V2 = wc := ⟨_, rfl⟩
    rw [← hV2] at hcut ⊢
    clear hV2
    have HC := Lib.hid hcut; clear hcut
    go_wp2_with fail
    go_ret
    exact ⟨rfl, HC.out⟩

end Go.Proofs.Ytpaffpiaoanegaa
