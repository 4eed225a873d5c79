/-
  What is proved here: the document's tree: putting a new key.
  No condition: each lemma names its own.
-/
import Derived.Test.YtpaffpiaoanegaaTreeX
import Derived.Test.YtpaffpiaoanegaaLast
import Derived.Deep.DeepCutAuto
import Derived.Deep.RegionHeld3
set_option linter.unusedVariables false
set_option linter.unusedSimpArgs false
namespace Go.Proofs.Ytpaffpiaoanegaa
open Go.RowKit

set_option maxRecDepth 100000 in
set_option maxHeartbeats 40000000 in
theorem rput_new_s {w W : World} {l : List Res} {b g q i : Nat} {L : List E} {key : ByteArray} (hr : RefAt W b L) (hi : i = below L key) (hs1 : Sep w W (blkRes b (.cells #[.slice (some ⟨g, 0, none⟩) L.length q] 41 (0, 0)) :: rowRes 46 2 (.slice (some ⟨g, 0, none⟩) L.length q) (L.length) (cellsE L) :: l)) (n : Int) (hkey : key.size ≤ 4096) (hl : L.length ≤ 100000) (hn : L.length ≠ 4096) (hh : here L key = false) (hiq : i < q) (hql : L.length ≤ q) :
    Calls Try.prog 12 #[.pointer (some ⟨b, 0, none⟩), .string key, .int .i64 n] W fun r W' => r = .returned (.tuple #[.bool true, .int .i64 0]) ∧ Sep w W' (refRes b (putL L (key, n)) :: l) := by
  obtain ⟨ie, IE⟩ := info_of Try.infoREnt
  have h' : ¬ ((4096 : Int) < (key.size : Int)) := by omega
  have HRA := Lib.hid hr
  have hbl : i ≤ L.length := by rw [hi]; exact below_le L key
  have hll : (L.take i ++ (key, n) :: L.drop i).length = L.length + 1 := by simp only [List.length_append, List.length_cons, List.length_take, List.length_drop]; omega
  have HF : Hid (∀ (W2 : World) (p2 : Option Addr) (q2 m : Nat) (xs : List Value), m = L.length + 1 → xs = cellsE (L.take i ++ (key, n) :: L.drop i) → Sep w W2 (blkRes b (.cells #[.slice p2 m q2] 41 (0, 0)) :: rowRes 46 2 (.slice p2 m q2) m xs :: l) → Sep w W2 (refRes b (putL L (key, n)) :: l)) := by
    intro W2 p2 q2 m xs hm hx h2
    subst hm hx
    unfold putL
    rw [if_neg (by rw [hh]; decide), ← hi]
    refine Sep.close (ps := refParts b (L.take i ++ (key, n) :: L.drop i)) (p2, q2) ?_ trivial
    simp only [refParts, List.cons_append, List.nil_append]
    rw [hll]
    exact h2
  have HI := Lib.hid hi
  have HL := Lib.hid hl
  have hn' : ¬ ((L.length : Int) = 4096) := by omega
  have hqi : ¬ (q = i) := by omega
  have hiq2 : i ≤ q := by omega
  have k0 := cell_of_block hs1.blk 0 (v := .slice (some ⟨g, 0, none⟩) L.length q) rfl
  have HS := Lib.hid hs1
  have HM0 : Hid (Sep w (W.alloc (.cells #[] 46)).drew (rowRes 46 2 (.slice (some ⟨W.heap.size, 0, none⟩) 0 0) (0) ([]) :: blkRes b (.cells #[.slice (some ⟨g, 0, none⟩) L.length q] 41 (0, 0)) :: rowRes 46 2 (.slice (some ⟨g, 0, none⟩) L.length q) (L.length) (cellsE L) :: l)) := (HS.out.row_made 46 2).drew
  have HM01 : Hid (Sep w ((W.alloc (.cells #[] 46)).alloc (.cells #[.string key, .int .i64 n] 46)).drew (rowRes 46 2 (.slice (some ⟨W.heap.size, 0, none⟩) 0 0) (0) ([]) :: blkRes (W.heap.size + 1) (.cells #[.string key, .int .i64 n] 46 (0, 0)) :: blkRes b (.cells #[.slice (some ⟨g, 0, none⟩) L.length q] 41 (0, 0)) :: rowRes 46 2 (.slice (some ⟨g, 0, none⟩) L.length q) (L.length) (cellsE L) :: l)) := by
    have h := ((HS.out.row_made 46 2).alloc #[.string key, .int .i64 n] 46).up1.drew
    rw [show (W.alloc (.cells #[] 46)).heap.size = W.heap.size + 1 from by simp] at h
    exact h
  have HM10 : Hid (Sep w ((W.alloc (.cells #[.string key, .int .i64 n] 46)).alloc (.cells #[] 46)).drew (rowRes 46 2 (.slice (some ⟨W.heap.size + 1, 0, none⟩) 0 0) (0) ([]) :: blkRes W.heap.size (.cells #[.string key, .int .i64 n] 46 (0, 0)) :: blkRes b (.cells #[.slice (some ⟨g, 0, none⟩) L.length q] 41 (0, 0)) :: rowRes 46 2 (.slice (some ⟨g, 0, none⟩) L.length q) (L.length) (cellsE L) :: l)) := by
    have h := ((HS.out.alloc #[.string key, .int .i64 n] 46).row_made 46 2).drew
    rw [show (W.alloc (.cells #[.string key, .int .i64 n] 46)).heap.size = W.heap.size + 1 from by simp] at h
    exact h
  have ka0 : (W.alloc (.cells #[] 46)).cell? ⟨b, 0, none⟩ = some (.slice (some ⟨g, 0, none⟩) L.length q) := Lib.cell?_alloc_some _ k0
  have ka1 : (W.alloc (.cells #[.string key, .int .i64 n] 46)).cell? ⟨b, 0, none⟩ = some (.slice (some ⟨g, 0, none⟩) L.length q) := Lib.cell?_alloc_some _ k0
  have ka01 : ((W.alloc (.cells #[] 46)).alloc (.cells #[.string key, .int .i64 n] 46)).cell? ⟨b, 0, none⟩ = some (.slice (some ⟨g, 0, none⟩) L.length q) := Lib.cell?_alloc_some _ ka0
  have ka10 : ((W.alloc (.cells #[.string key, .int .i64 n] 46)).alloc (.cells #[] 46)).cell? ⟨b, 0, none⟩ = some (.slice (some ⟨g, 0, none⟩) L.length q) := Lib.cell?_alloc_some _ ka1
  have mixed : Try.prog.follows .mixedOrders = true := by kernel_rfl
  have HT : Hid (i < L.length → ∃ x : E, W.cell? ⟨g, i * 2, none⟩ = some (.string x.1) ∧ (x.1.toList == key.toList) = false) := by
    intro hlt
    obtain ⟨x, hx⟩ : ∃ x, L[i]? = some x := ⟨_, List.getElem?_eq_getElem hlt⟩
    obtain ⟨_, he, c0, c1, f0, f1⟩ := cells_at hs1.up1.row hx
    cases he
    rw [hi] at hx
    exact ⟨x, c0, text_ne (here_not hh hx)⟩
  have SHM0 := Lib.hid (cells_takes (HM0.out.rowOf (e := 46) (size := 2) (v := .slice (some ⟨g, 0, none⟩) L.length q) (n := L.length) (xs := cellsE L) (by simp)) i)
  have SHM01 := Lib.hid (cells_takes (HM01.out.rowOf (e := 46) (size := 2) (v := .slice (some ⟨g, 0, none⟩) L.length q) (n := L.length) (xs := cellsE L) (by simp)) i)
  have SHM10 := Lib.hid (cells_takes (HM10.out.rowOf (e := 46) (size := 2) (v := .slice (some ⟨g, 0, none⟩) L.length q) (n := L.length) (xs := cellsE L) (by simp)) i)
  clear hr hs1 hh hll hi
  go_enter Try.func12, Try.ntmps12
  go_wp2_with fail
  refine (rat_any HRA.out HL.out key).mono ?_
  rintro r w1 ⟨rfl, rfl⟩
  rw [← HI.out]
  go_upto_region 4 with fail
  go_cut [33] (fun s33 wx => W = wx ∧ s33 = .bool false)
  case first =>
    by_cases hlt : i < L.length
    · obtain ⟨x, c0, ht⟩ := HT.out hlt
      go_wp2_with fail
      go_meet
      exact ⟨rfl, rfl⟩
    · have hlt2 : i = L.length := by omega
      have hlt3 : ¬ ((i : Int) < (L.length : Int)) := by omega
      clear hlt2
      go_wp2_with fail
      go_meet
      exact ⟨rfl, rfl⟩
  case rest =>
  obtain ⟨rfl, rfl⟩ := hcut
  go_upto_region 9 with fail
  go_cut [] (fun wx => Sep w wx (refRes b (putL L (key, n)) :: l))
  case first =>
    have HT1 := Lib.hid (cellsE_one (L.take i))
    have HD1 := Lib.hid (cellsE_one (L.drop i))
    go_wp2_with fail
    refine wp_region_last (S := (fun w' => w'.cell? ⟨b, 0, none⟩ = some (.slice (some ⟨g, 0, none⟩) L.length q))) (by kernel_rfl) 23 _ rfl rfl rfl (by kernel_rfl) [22, 21, 20, 19, 18, 17, 16, 15, 14, 13, 12, 11, 10, 9, 8, 7, 6, 5, 4, 3, 2, 1, 0] (by kernel_rfl) (by kernel_rfl) ?_ (fun hHeld => ?_)
    · (try dsimp only); (first | go_keep | assumption)
    simp only [lull, List.setIfInBounds_toArray, List.set_cons_succ, List.set_cons_zero]
    refine wpAnyH_take (i := 0) (v := ?_) rfl (by kernel_rfl) (by kernel_rfl) (by kernel_rfl) (fun _ _ _ h => h) (Or.inl ⟨by rfl, ?_⟩) (by assumption) ?_
    rotate_left
    · (intro w hSw; (try dsimp only at hSw); go_simp; try with_reducible rfl)
    (try simp only [Act.put, List.setIfInBounds_toArray, List.set_cons_zero, List.set_cons_succ])
    refine wpAnyH_take (i := 2) (v := ?_) rfl (by kernel_rfl) (by kernel_rfl) (by kernel_rfl) (fun _ _ _ h => h) (Or.inl ⟨by rfl, ?_⟩) (by assumption) ?_
    rotate_left
    · (intro w hSw; (try dsimp only at hSw); go_simp; try with_reducible rfl)
    (try simp only [Act.put, List.setIfInBounds_toArray, List.set_cons_zero, List.set_cons_succ])
    refine wpAnyH_take (i := 3) (v := ?_) rfl (by kernel_rfl) (by kernel_rfl) (by kernel_rfl) (fun _ _ _ h => h) (Or.inl ⟨by rfl, ?_⟩) (by assumption) ?_
    rotate_left
    · (intro w hSw; (try dsimp only at hSw); go_simp; try with_reducible rfl)
    (try simp only [Act.put, List.setIfInBounds_toArray, List.set_cons_zero, List.set_cons_succ])
    refine wpAnyH_take (i := 4) (v := ?_) rfl (by kernel_rfl) (by kernel_rfl) (by kernel_rfl) (fun _ _ _ h => h) (Or.inl ⟨by rfl, ?_⟩) (by assumption) ?_
    rotate_left
    · (intro w hSw; (try dsimp only at hSw); go_simp; try with_reducible rfl)
    (try simp only [Act.put, List.setIfInBounds_toArray, List.set_cons_zero, List.set_cons_succ])
    refine wpAnyH_take (i := 5) (v := ?_) rfl (by kernel_rfl) (by kernel_rfl) (by kernel_rfl) (fun _ _ _ h => h) (Or.inl ⟨by rfl, ?_⟩) (by assumption) ?_
    rotate_left
    · (intro w hSw; (try dsimp only at hSw); go_simp; try with_reducible rfl)
    (try simp only [Act.put, List.setIfInBounds_toArray, List.set_cons_zero, List.set_cons_succ])
    refine wpAnyH_take (i := 6) (v := ?_) rfl (by kernel_rfl) (by kernel_rfl) (by kernel_rfl) (fun _ _ _ h => h) (Or.inl ⟨by rfl, ?_⟩) (by assumption) ?_
    rotate_left
    · (intro w hSw; (try dsimp only at hSw); go_simp; try with_reducible rfl)
    (try simp only [Act.put, List.setIfInBounds_toArray, List.set_cons_zero, List.set_cons_succ])
    refine wpAnyH_take (i := 7) (v := ?_) rfl (by kernel_rfl) (by kernel_rfl) (by kernel_rfl) (fun _ _ _ h => h) (Or.inl ⟨by rfl, ?_⟩) (by assumption) ?_
    rotate_left
    · (intro w hSw; (try dsimp only at hSw); go_simp; try with_reducible rfl)
    (try simp only [Act.put, List.setIfInBounds_toArray, List.set_cons_zero, List.set_cons_succ])
    refine wpAnyH_take (i := 9) (v := ?_) rfl (by kernel_rfl) (by kernel_rfl) (by kernel_rfl) (fun _ _ _ h => h) (Or.inl ⟨by rfl, ?_⟩) (by assumption) ?_
    rotate_left
    · (intro w hSw; (try dsimp only at hSw); go_simp; try with_reducible rfl)
    (try simp only [Act.put, List.setIfInBounds_toArray, List.set_cons_zero, List.set_cons_succ])
    refine wpAnyH_take (i := 10) (v := ?_) rfl (by kernel_rfl) (by kernel_rfl) (by kernel_rfl) (fun _ _ _ h => h) (Or.inl ⟨by rfl, ?_⟩) (by assumption) ?_
    rotate_left
    · (intro w hSw; (try dsimp only at hSw); go_simp; try with_reducible rfl)
    (try simp only [Act.put, List.setIfInBounds_toArray, List.set_cons_zero, List.set_cons_succ])
    refine wpAnyH_take (i := 11) (v := ?_) rfl (by kernel_rfl) (by kernel_rfl) (by kernel_rfl) (fun _ _ _ h => h) (Or.inl ⟨by rfl, ?_⟩) (by assumption) ?_
    rotate_left
    · (intro w hSw; (try dsimp only at hSw); go_simp; try with_reducible rfl)
    (try simp only [Act.put, List.setIfInBounds_toArray, List.set_cons_zero, List.set_cons_succ])
    refine wpAnyH_take (i := 14) (v := ?_) rfl (by kernel_rfl) (by kernel_rfl) (by kernel_rfl) (fun _ _ _ h => h) (Or.inl ⟨by rfl, ?_⟩) (by assumption) ?_
    rotate_left
    · (intro w hSw; (try dsimp only at hSw); go_simp; try with_reducible rfl)
    (try simp only [Act.put, List.setIfInBounds_toArray, List.set_cons_zero, List.set_cons_succ])
    refine wpAnyH_take (i := 15) (v := ?_) rfl (by kernel_rfl) (by kernel_rfl) (by kernel_rfl) (fun _ _ _ h => h) (Or.inl ⟨by rfl, ?_⟩) (by assumption) ?_
    rotate_left
    · (intro w hSw; (try dsimp only at hSw); go_simp; try with_reducible rfl)
    (try simp only [Act.put, List.setIfInBounds_toArray, List.set_cons_zero, List.set_cons_succ])
    refine wpAnyH_take (i := 16) (v := ?_) rfl (by kernel_rfl) (by kernel_rfl) (by kernel_rfl) (fun _ _ _ h => h) (Or.inl ⟨by rfl, ?_⟩) (by assumption) ?_
    rotate_left
    · (intro w hSw; (try dsimp only at hSw); go_simp; try with_reducible rfl)
    (try simp only [Act.put, List.setIfInBounds_toArray, List.set_cons_zero, List.set_cons_succ])
    refine wpAnyH_take (i := 17) (v := ?_) rfl (by kernel_rfl) (by kernel_rfl) (by kernel_rfl) (fun _ _ _ h => h) (Or.inl ⟨by rfl, ?_⟩) (by assumption) ?_
    rotate_left
    · (intro w hSw; (try dsimp only at hSw); go_simp; try with_reducible rfl)
    (try simp only [Act.put, List.setIfInBounds_toArray, List.set_cons_zero, List.set_cons_succ])
    refine wpAnyH_take (i := 18) (v := ?_) rfl (by kernel_rfl) (by kernel_rfl) (by kernel_rfl) (fun _ _ _ h => h) (Or.inl ⟨by rfl, ?_⟩) (by assumption) ?_
    rotate_left
    · (intro w hSw; (try dsimp only at hSw); go_simp; try with_reducible rfl)
    (try simp only [Act.put, List.setIfInBounds_toArray, List.set_cons_zero, List.set_cons_succ])
    refine wpAnyH_take (i := 19) (v := ?_) rfl (by kernel_rfl) (by kernel_rfl) (by kernel_rfl) (fun _ _ _ h => h) (Or.inl ⟨by rfl, ?_⟩) (by assumption) ?_
    rotate_left
    · (intro w hSw; (try dsimp only at hSw); go_simp; try with_reducible rfl)
    (try simp only [Act.put, List.setIfInBounds_toArray, List.set_cons_zero, List.set_cons_succ])
    refine wpAnyH_ready (rs := [1, 12]) (by kernel_rfl) (by simp) ?_
    refine AllReadyH.cons rfl (fun K hK => ?_) ?_
    · go_simp
      refine hK.out _ _ ?_ (fun hH1 => ?_)
      · (try dsimp only); (first | go_keep | assumption)
      clear hK K hHeld
      (try simp only [Act.put, List.setIfInBounds_toArray, List.set_cons_zero, List.set_cons_succ])
      refine wpAnyH_ready (rs := [8, 12]) (by kernel_rfl) (by simp) ?_
      refine AllReadyH.cons rfl (fun K hK => ?_) ?_
      · first | (refine step_append_src (w := w) (e := 46) rfl (.tmp 49) (.tmp 55) 39 rfl ie _ 2 24 Try.underlying39 IE.out rfl (by decide) (.slice (some ⟨W.heap.size, 0, none⟩) 0 0) 0 [] rfl (some ⟨g, 0, none⟩) i q (cellsE (L.take i)) rfl (by rw [cellsE_length, List.length_take, Nat.min_eq_left hbl]) SHM0.out HT1.out HM0.out (by unfold maxLen; omega) (by omega) ?_; intro p4 q4 w4 hs4; rw [Nat.zero_add, List.nil_append] at hs4; rw [Nat.zero_add]; have HS4 := Lib.hid hs4; clear hs4; have kn4 := cell_of_block (HS4.out.blkOf (g := b) (o := .cells #[.slice (some ⟨g, 0, none⟩) L.length q] 41 (0, 0)) (by simp)) 0 (v := .slice (some ⟨g, 0, none⟩) L.length q) rfl; have kn5 : (w4.alloc (.cells #[.string key, .int .i64 n] 46)).cell? ⟨b, 0, none⟩ = some (.slice (some ⟨g, 0, none⟩) L.length q) := Lib.cell?_alloc_some _ kn4) | (refine step_append_src (w := w) (e := 46) rfl (.tmp 49) (.tmp 55) 39 rfl ie _ 2 24 Try.underlying39 IE.out rfl (by decide) (.slice (some ⟨W.heap.size, 0, none⟩) 0 0) 0 [] rfl (some ⟨g, 0, none⟩) i q (cellsE (L.take i)) rfl (by rw [cellsE_length, List.length_take, Nat.min_eq_left hbl]) SHM01.out HT1.out HM01.out (by unfold maxLen; omega) (by omega) ?_; intro p4 q4 w4 hs4; rw [Nat.zero_add, List.nil_append] at hs4; rw [Nat.zero_add]; have HS4 := Lib.hid hs4; clear hs4; have kn4 := cell_of_block (HS4.out.blkOf (g := b) (o := .cells #[.slice (some ⟨g, 0, none⟩) L.length q] 41 (0, 0)) (by simp)) 0 (v := .slice (some ⟨g, 0, none⟩) L.length q) rfl) | (refine step_append_src (w := w) (e := 46) rfl (.tmp 49) (.tmp 55) 39 rfl ie _ 2 24 Try.underlying39 IE.out rfl (by decide) (.slice (some ⟨W.heap.size + 1, 0, none⟩) 0 0) 0 [] rfl (some ⟨g, 0, none⟩) i q (cellsE (L.take i)) rfl (by rw [cellsE_length, List.length_take, Nat.min_eq_left hbl]) SHM10.out HT1.out HM10.out (by unfold maxLen; omega) (by omega) ?_; intro p4 q4 w4 hs4; rw [Nat.zero_add, List.nil_append] at hs4; rw [Nat.zero_add]; have HS4 := Lib.hid hs4; clear hs4; have kn4 := cell_of_block (HS4.out.blkOf (g := b) (o := .cells #[.slice (some ⟨g, 0, none⟩) L.length q] 41 (0, 0)) (by simp)) 0 (v := .slice (some ⟨g, 0, none⟩) L.length q) rfl)
        refine hK.out _ _ ?_ (fun hH2 => ?_)
        · (try dsimp only); (first | go_keep | assumption)
        clear hK K hH1
        (try simp only [Act.put, List.setIfInBounds_toArray, List.set_cons_zero, List.set_cons_succ])
        refine wpAnyH_ready (rs := [12]) (by kernel_rfl) (by simp) ?_
        refine AllReadyH.cons rfl (fun K hK => ?_) ?_
        · go_simp
          refine hK.out _ _ ?_ (fun hH3 => ?_)
          · (try dsimp only); (first | go_keep | assumption)
          clear hK K hH2
          (try simp only [Act.put, List.setIfInBounds_toArray, List.set_cons_zero, List.set_cons_succ])
          refine wpAnyH_ready (rs := [13]) (by kernel_rfl) (by simp) ?_
          refine AllReadyH.cons rfl (fun K hK => ?_) ?_
          · first | (refine step_append_sep (w := w) (e := 46) (B := (W.heap.size + 1)) rfl (.tmp 56) (.tmp 60) 39 rfl ie _ 2 24 Try.underlying39 IE.out rfl (by decide) (.slice p4 i q4) i (cellsE (L.take i)) rfl rfl (HS4.out.up1.blk) rfl (ent_one' (key, n)) HS4.out (by unfold maxLen; omega) (by omega) ?_; intro p5 q5 w5 hs5; have HS5 := Lib.hid hs5; clear hs5; have kn6 := cell_of_block (HS5.out.blkOf (g := b) (o := .cells #[.slice (some ⟨g, 0, none⟩) L.length q] 41 (0, 0)) (by simp)) 0 (v := .slice (some ⟨g, 0, none⟩) L.length q) rfl) | (refine step_append_sep (w := w) (e := 46) (B := W.heap.size) rfl (.tmp 56) (.tmp 60) 39 rfl ie _ 2 24 Try.underlying39 IE.out rfl (by decide) (.slice p4 i q4) i (cellsE (L.take i)) rfl rfl (HS4.out.up1.blk) rfl (ent_one' (key, n)) HS4.out (by unfold maxLen; omega) (by omega) ?_; intro p5 q5 w5 hs5; have HS5 := Lib.hid hs5; clear hs5; have kn6 := cell_of_block (HS5.out.blkOf (g := b) (o := .cells #[.slice (some ⟨g, 0, none⟩) L.length q] 41 (0, 0)) (by simp)) 0 (v := .slice (some ⟨g, 0, none⟩) L.length q) rfl) | (refine step_append_sep (w := w) (e := 46) (B := w4.heap.size) rfl (.tmp 56) (.tmp 60) 39 rfl ie _ 2 24 Try.underlying39 IE.out rfl (by decide) (.slice p4 i q4) i (cellsE (L.take i)) rfl rfl (heap_alloc_self) rfl (ent_one' (key, n)) (HS4.out.forget (.cells #[.string key, .int .i64 n] 46)) (by unfold maxLen; omega) (by omega) ?_; intro p5 q5 w5 hs5; have HS5 := Lib.hid hs5; clear hs5; have kn6 := cell_of_block (HS5.out.blkOf (g := b) (o := .cells #[.slice (some ⟨g, 0, none⟩) L.length q] 41 (0, 0)) (by simp)) 0 (v := .slice (some ⟨g, 0, none⟩) L.length q) rfl)
            refine hK.out _ _ ?_ (fun hH4 => ?_)
            · (try dsimp only); (first | go_keep | assumption)
            clear hK K hH3
            (try simp only [Act.put, List.setIfInBounds_toArray, List.set_cons_zero, List.set_cons_succ])
            refine wpAnyH_ready (rs := [20]) (by kernel_rfl) (by simp) ?_
            refine AllReadyH.cons rfl (fun K hK => ?_) ?_
            · (refine step_append_src (w := w) (e := 46) rfl (.tmp 61) (.tmp 67) 39 rfl ie _ 2 24 Try.underlying39 IE.out rfl (by decide) (.slice p5 (i + 1) q5) (i + 1) (cellsE (L.take i) ++ (#[.string key, .int .i64 n] : Array Value).toList) rfl (some ⟨g, i * 2, none⟩) (L.length - i) (q - i) (cellsE (L.drop i)) rfl (by rw [cellsE_length, List.length_drop]) (cells_drops (HS5.out.rowOf (e := 46) (size := 2) (v := .slice (some ⟨g, 0, none⟩) L.length q) (n := L.length) (xs := cellsE L) (by simp)) i) HD1.out HS5.out (by unfold maxLen; omega) (by omega) ?_; intro p6 q6 w6 hs6; have HS6 := Lib.hid hs6; clear hs6; have kn7 := cell_of_block (HS6.out.blkOf (g := b) (o := .cells #[.slice (some ⟨g, 0, none⟩) L.length q] 41 (0, 0)) (by simp)) 0 (v := .slice (some ⟨g, 0, none⟩) L.length q) rfl; have fn7 := free_of_block (HS6.out.blkOf (g := b) (o := .cells #[.slice (some ⟨g, 0, none⟩) L.length q] 41 (0, 0)) (by simp)) 0)
              refine hK.out _ _ ?_ (fun hH5 => ?_)
              · (try dsimp only); (first | go_keep | assumption)
              clear hK K hH4
              (try simp only [Act.put, List.setIfInBounds_toArray, List.set_cons_zero, List.set_cons_succ])
              refine wpAnyH_take (i := 21) (v := ?_) rfl (by kernel_rfl) (by kernel_rfl) (by kernel_rfl) (fun _ _ _ h => h) (Or.inl ⟨by rfl, ?_⟩) (by assumption) ?_
              rotate_left
              · (intro w hSw; (try dsimp only at hSw); go_simp; try with_reducible rfl)
              (try simp only [Act.put, List.setIfInBounds_toArray, List.set_cons_zero, List.set_cons_succ])
              refine wpAnyH_take (i := 22) (v := ?_) rfl (by kernel_rfl) (by kernel_rfl) (by kernel_rfl) (fun _ _ _ h => h) (Or.inl ⟨by rfl, ?_⟩) (by assumption) ?_
              rotate_left
              · (intro w hSw; (try dsimp only at hSw); go_simp; try with_reducible rfl)
              (try simp only [Act.put, List.setIfInBounds_toArray, List.set_cons_zero, List.set_cons_succ])
              refine wpAnyH_take (i := 23) (v := ?_) rfl (by kernel_rfl) (by kernel_rfl) (by kernel_rfl) (fun _ _ _ h => h) (Or.inl ⟨by rfl, ?_⟩) (by assumption) ?_
              rotate_left
              · (intro w hSw; (try dsimp only at hSw); go_simp; try with_reducible rfl)
              (try simp only [Act.put, List.setIfInBounds_toArray, List.set_cons_zero, List.set_cons_succ])
              refine wpAnyH_done (by kernel_rfl) ?_ _
              refine tail_run rfl rfl ?_
              clear hH5
              go_simp
              go_wp2_with fail
              go_meet
              first | refine HF.out _ _ _ _ _ ?_ ?_ ((HS6.out.up2.tail).up1.store 0 _) | refine HF.out _ _ _ _ _ ?_ ?_ (((HS6.out.up1.tail).up2.tail).up1.store 0 _)
              · omega
              · rw [cellsE_append, List.append_assoc]; rfl
            exact AllReadyH.nil
          exact AllReadyH.nil
        exact AllReadyH.nil
      refine AllReadyH.cons rfl (fun K hK => ?_) ?_
      · go_simp
        refine hK.out _ _ ?_ (fun hH6 => ?_)
        · (try dsimp only); (first | go_keep | assumption)
        clear hK K hH1
        (try simp only [Act.put, List.setIfInBounds_toArray, List.set_cons_zero, List.set_cons_succ])
        refine wpAnyH_ready (rs := [8]) (by kernel_rfl) (by simp) ?_
        refine AllReadyH.cons rfl (fun K hK => ?_) ?_
        · first | (refine step_append_src (w := w) (e := 46) rfl (.tmp 49) (.tmp 55) 39 rfl ie _ 2 24 Try.underlying39 IE.out rfl (by decide) (.slice (some ⟨W.heap.size, 0, none⟩) 0 0) 0 [] rfl (some ⟨g, 0, none⟩) i q (cellsE (L.take i)) rfl (by rw [cellsE_length, List.length_take, Nat.min_eq_left hbl]) SHM0.out HT1.out HM0.out (by unfold maxLen; omega) (by omega) ?_; intro p4 q4 w4 hs4; rw [Nat.zero_add, List.nil_append] at hs4; rw [Nat.zero_add]; have HS4 := Lib.hid hs4; clear hs4; have kn4 := cell_of_block (HS4.out.blkOf (g := b) (o := .cells #[.slice (some ⟨g, 0, none⟩) L.length q] 41 (0, 0)) (by simp)) 0 (v := .slice (some ⟨g, 0, none⟩) L.length q) rfl; have kn5 : (w4.alloc (.cells #[.string key, .int .i64 n] 46)).cell? ⟨b, 0, none⟩ = some (.slice (some ⟨g, 0, none⟩) L.length q) := Lib.cell?_alloc_some _ kn4) | (refine step_append_src (w := w) (e := 46) rfl (.tmp 49) (.tmp 55) 39 rfl ie _ 2 24 Try.underlying39 IE.out rfl (by decide) (.slice (some ⟨W.heap.size, 0, none⟩) 0 0) 0 [] rfl (some ⟨g, 0, none⟩) i q (cellsE (L.take i)) rfl (by rw [cellsE_length, List.length_take, Nat.min_eq_left hbl]) SHM01.out HT1.out HM01.out (by unfold maxLen; omega) (by omega) ?_; intro p4 q4 w4 hs4; rw [Nat.zero_add, List.nil_append] at hs4; rw [Nat.zero_add]; have HS4 := Lib.hid hs4; clear hs4; have kn4 := cell_of_block (HS4.out.blkOf (g := b) (o := .cells #[.slice (some ⟨g, 0, none⟩) L.length q] 41 (0, 0)) (by simp)) 0 (v := .slice (some ⟨g, 0, none⟩) L.length q) rfl) | (refine step_append_src (w := w) (e := 46) rfl (.tmp 49) (.tmp 55) 39 rfl ie _ 2 24 Try.underlying39 IE.out rfl (by decide) (.slice (some ⟨W.heap.size + 1, 0, none⟩) 0 0) 0 [] rfl (some ⟨g, 0, none⟩) i q (cellsE (L.take i)) rfl (by rw [cellsE_length, List.length_take, Nat.min_eq_left hbl]) SHM10.out HT1.out HM10.out (by unfold maxLen; omega) (by omega) ?_; intro p4 q4 w4 hs4; rw [Nat.zero_add, List.nil_append] at hs4; rw [Nat.zero_add]; have HS4 := Lib.hid hs4; clear hs4; have kn4 := cell_of_block (HS4.out.blkOf (g := b) (o := .cells #[.slice (some ⟨g, 0, none⟩) L.length q] 41 (0, 0)) (by simp)) 0 (v := .slice (some ⟨g, 0, none⟩) L.length q) rfl)
          refine hK.out _ _ ?_ (fun hH7 => ?_)
          · (try dsimp only); (first | go_keep | assumption)
          clear hK K hH6
          (try simp only [Act.put, List.setIfInBounds_toArray, List.set_cons_zero, List.set_cons_succ])
          refine wpAnyH_ready (rs := [13]) (by kernel_rfl) (by simp) ?_
          refine AllReadyH.cons rfl (fun K hK => ?_) ?_
          · first | (refine step_append_sep (w := w) (e := 46) (B := (W.heap.size + 1)) rfl (.tmp 56) (.tmp 60) 39 rfl ie _ 2 24 Try.underlying39 IE.out rfl (by decide) (.slice p4 i q4) i (cellsE (L.take i)) rfl rfl (HS4.out.up1.blk) rfl (ent_one' (key, n)) HS4.out (by unfold maxLen; omega) (by omega) ?_; intro p5 q5 w5 hs5; have HS5 := Lib.hid hs5; clear hs5; have kn6 := cell_of_block (HS5.out.blkOf (g := b) (o := .cells #[.slice (some ⟨g, 0, none⟩) L.length q] 41 (0, 0)) (by simp)) 0 (v := .slice (some ⟨g, 0, none⟩) L.length q) rfl) | (refine step_append_sep (w := w) (e := 46) (B := W.heap.size) rfl (.tmp 56) (.tmp 60) 39 rfl ie _ 2 24 Try.underlying39 IE.out rfl (by decide) (.slice p4 i q4) i (cellsE (L.take i)) rfl rfl (HS4.out.up1.blk) rfl (ent_one' (key, n)) HS4.out (by unfold maxLen; omega) (by omega) ?_; intro p5 q5 w5 hs5; have HS5 := Lib.hid hs5; clear hs5; have kn6 := cell_of_block (HS5.out.blkOf (g := b) (o := .cells #[.slice (some ⟨g, 0, none⟩) L.length q] 41 (0, 0)) (by simp)) 0 (v := .slice (some ⟨g, 0, none⟩) L.length q) rfl) | (refine step_append_sep (w := w) (e := 46) (B := w4.heap.size) rfl (.tmp 56) (.tmp 60) 39 rfl ie _ 2 24 Try.underlying39 IE.out rfl (by decide) (.slice p4 i q4) i (cellsE (L.take i)) rfl rfl (heap_alloc_self) rfl (ent_one' (key, n)) (HS4.out.forget (.cells #[.string key, .int .i64 n] 46)) (by unfold maxLen; omega) (by omega) ?_; intro p5 q5 w5 hs5; have HS5 := Lib.hid hs5; clear hs5; have kn6 := cell_of_block (HS5.out.blkOf (g := b) (o := .cells #[.slice (some ⟨g, 0, none⟩) L.length q] 41 (0, 0)) (by simp)) 0 (v := .slice (some ⟨g, 0, none⟩) L.length q) rfl)
            refine hK.out _ _ ?_ (fun hH8 => ?_)
            · (try dsimp only); (first | go_keep | assumption)
            clear hK K hH7
            (try simp only [Act.put, List.setIfInBounds_toArray, List.set_cons_zero, List.set_cons_succ])
            refine wpAnyH_ready (rs := [20]) (by kernel_rfl) (by simp) ?_
            refine AllReadyH.cons rfl (fun K hK => ?_) ?_
            · (refine step_append_src (w := w) (e := 46) rfl (.tmp 61) (.tmp 67) 39 rfl ie _ 2 24 Try.underlying39 IE.out rfl (by decide) (.slice p5 (i + 1) q5) (i + 1) (cellsE (L.take i) ++ (#[.string key, .int .i64 n] : Array Value).toList) rfl (some ⟨g, i * 2, none⟩) (L.length - i) (q - i) (cellsE (L.drop i)) rfl (by rw [cellsE_length, List.length_drop]) (cells_drops (HS5.out.rowOf (e := 46) (size := 2) (v := .slice (some ⟨g, 0, none⟩) L.length q) (n := L.length) (xs := cellsE L) (by simp)) i) HD1.out HS5.out (by unfold maxLen; omega) (by omega) ?_; intro p6 q6 w6 hs6; have HS6 := Lib.hid hs6; clear hs6; have kn7 := cell_of_block (HS6.out.blkOf (g := b) (o := .cells #[.slice (some ⟨g, 0, none⟩) L.length q] 41 (0, 0)) (by simp)) 0 (v := .slice (some ⟨g, 0, none⟩) L.length q) rfl; have fn7 := free_of_block (HS6.out.blkOf (g := b) (o := .cells #[.slice (some ⟨g, 0, none⟩) L.length q] 41 (0, 0)) (by simp)) 0)
              refine hK.out _ _ ?_ (fun hH9 => ?_)
              · (try dsimp only); (first | go_keep | assumption)
              clear hK K hH8
              (try simp only [Act.put, List.setIfInBounds_toArray, List.set_cons_zero, List.set_cons_succ])
              refine wpAnyH_take (i := 21) (v := ?_) rfl (by kernel_rfl) (by kernel_rfl) (by kernel_rfl) (fun _ _ _ h => h) (Or.inl ⟨by rfl, ?_⟩) (by assumption) ?_
              rotate_left
              · (intro w hSw; (try dsimp only at hSw); go_simp; try with_reducible rfl)
              (try simp only [Act.put, List.setIfInBounds_toArray, List.set_cons_zero, List.set_cons_succ])
              refine wpAnyH_take (i := 22) (v := ?_) rfl (by kernel_rfl) (by kernel_rfl) (by kernel_rfl) (fun _ _ _ h => h) (Or.inl ⟨by rfl, ?_⟩) (by assumption) ?_
              rotate_left
              · (intro w hSw; (try dsimp only at hSw); go_simp; try with_reducible rfl)
              (try simp only [Act.put, List.setIfInBounds_toArray, List.set_cons_zero, List.set_cons_succ])
              refine wpAnyH_take (i := 23) (v := ?_) rfl (by kernel_rfl) (by kernel_rfl) (by kernel_rfl) (fun _ _ _ h => h) (Or.inl ⟨by rfl, ?_⟩) (by assumption) ?_
              rotate_left
              · (intro w hSw; (try dsimp only at hSw); go_simp; try with_reducible rfl)
              (try simp only [Act.put, List.setIfInBounds_toArray, List.set_cons_zero, List.set_cons_succ])
              refine wpAnyH_done (by kernel_rfl) ?_ _
              refine tail_run rfl rfl ?_
              clear hH9
              go_simp
              go_wp2_with fail
              go_meet
              first | refine HF.out _ _ _ _ _ ?_ ?_ ((HS6.out.up2.tail).up1.store 0 _) | refine HF.out _ _ _ _ _ ?_ ?_ (((HS6.out.up1.tail).up2.tail).up1.store 0 _)
              · omega
              · rw [cellsE_append, List.append_assoc]; rfl
            exact AllReadyH.nil
          exact AllReadyH.nil
        exact AllReadyH.nil
      exact AllReadyH.nil
    refine AllReadyH.cons rfl (fun K hK => ?_) ?_
    · go_simp
      refine hK.out _ _ ?_ (fun hH10 => ?_)
      · (try dsimp only); (first | go_keep | assumption)
      clear hK K hHeld
      (try simp only [Act.put, List.setIfInBounds_toArray, List.set_cons_zero, List.set_cons_succ])
      refine wpAnyH_ready (rs := [1]) (by kernel_rfl) (by simp) ?_
      refine AllReadyH.cons rfl (fun K hK => ?_) ?_
      · go_simp
        refine hK.out _ _ ?_ (fun hH11 => ?_)
        · (try dsimp only); (first | go_keep | assumption)
        clear hK K hH10
        (try simp only [Act.put, List.setIfInBounds_toArray, List.set_cons_zero, List.set_cons_succ])
        refine wpAnyH_ready (rs := [8]) (by kernel_rfl) (by simp) ?_
        refine AllReadyH.cons rfl (fun K hK => ?_) ?_
        · first | (refine step_append_src (w := w) (e := 46) rfl (.tmp 49) (.tmp 55) 39 rfl ie _ 2 24 Try.underlying39 IE.out rfl (by decide) (.slice (some ⟨W.heap.size, 0, none⟩) 0 0) 0 [] rfl (some ⟨g, 0, none⟩) i q (cellsE (L.take i)) rfl (by rw [cellsE_length, List.length_take, Nat.min_eq_left hbl]) SHM0.out HT1.out HM0.out (by unfold maxLen; omega) (by omega) ?_; intro p4 q4 w4 hs4; rw [Nat.zero_add, List.nil_append] at hs4; rw [Nat.zero_add]; have HS4 := Lib.hid hs4; clear hs4; have kn4 := cell_of_block (HS4.out.blkOf (g := b) (o := .cells #[.slice (some ⟨g, 0, none⟩) L.length q] 41 (0, 0)) (by simp)) 0 (v := .slice (some ⟨g, 0, none⟩) L.length q) rfl; have kn5 : (w4.alloc (.cells #[.string key, .int .i64 n] 46)).cell? ⟨b, 0, none⟩ = some (.slice (some ⟨g, 0, none⟩) L.length q) := Lib.cell?_alloc_some _ kn4) | (refine step_append_src (w := w) (e := 46) rfl (.tmp 49) (.tmp 55) 39 rfl ie _ 2 24 Try.underlying39 IE.out rfl (by decide) (.slice (some ⟨W.heap.size, 0, none⟩) 0 0) 0 [] rfl (some ⟨g, 0, none⟩) i q (cellsE (L.take i)) rfl (by rw [cellsE_length, List.length_take, Nat.min_eq_left hbl]) SHM01.out HT1.out HM01.out (by unfold maxLen; omega) (by omega) ?_; intro p4 q4 w4 hs4; rw [Nat.zero_add, List.nil_append] at hs4; rw [Nat.zero_add]; have HS4 := Lib.hid hs4; clear hs4; have kn4 := cell_of_block (HS4.out.blkOf (g := b) (o := .cells #[.slice (some ⟨g, 0, none⟩) L.length q] 41 (0, 0)) (by simp)) 0 (v := .slice (some ⟨g, 0, none⟩) L.length q) rfl) | (refine step_append_src (w := w) (e := 46) rfl (.tmp 49) (.tmp 55) 39 rfl ie _ 2 24 Try.underlying39 IE.out rfl (by decide) (.slice (some ⟨W.heap.size + 1, 0, none⟩) 0 0) 0 [] rfl (some ⟨g, 0, none⟩) i q (cellsE (L.take i)) rfl (by rw [cellsE_length, List.length_take, Nat.min_eq_left hbl]) SHM10.out HT1.out HM10.out (by unfold maxLen; omega) (by omega) ?_; intro p4 q4 w4 hs4; rw [Nat.zero_add, List.nil_append] at hs4; rw [Nat.zero_add]; have HS4 := Lib.hid hs4; clear hs4; have kn4 := cell_of_block (HS4.out.blkOf (g := b) (o := .cells #[.slice (some ⟨g, 0, none⟩) L.length q] 41 (0, 0)) (by simp)) 0 (v := .slice (some ⟨g, 0, none⟩) L.length q) rfl)
          refine hK.out _ _ ?_ (fun hH12 => ?_)
          · (try dsimp only); (first | go_keep | assumption)
          clear hK K hH11
          (try simp only [Act.put, List.setIfInBounds_toArray, List.set_cons_zero, List.set_cons_succ])
          refine wpAnyH_ready (rs := [13]) (by kernel_rfl) (by simp) ?_
          refine AllReadyH.cons rfl (fun K hK => ?_) ?_
          · first | (refine step_append_sep (w := w) (e := 46) (B := (W.heap.size + 1)) rfl (.tmp 56) (.tmp 60) 39 rfl ie _ 2 24 Try.underlying39 IE.out rfl (by decide) (.slice p4 i q4) i (cellsE (L.take i)) rfl rfl (HS4.out.up1.blk) rfl (ent_one' (key, n)) HS4.out (by unfold maxLen; omega) (by omega) ?_; intro p5 q5 w5 hs5; have HS5 := Lib.hid hs5; clear hs5; have kn6 := cell_of_block (HS5.out.blkOf (g := b) (o := .cells #[.slice (some ⟨g, 0, none⟩) L.length q] 41 (0, 0)) (by simp)) 0 (v := .slice (some ⟨g, 0, none⟩) L.length q) rfl) | (refine step_append_sep (w := w) (e := 46) (B := W.heap.size) rfl (.tmp 56) (.tmp 60) 39 rfl ie _ 2 24 Try.underlying39 IE.out rfl (by decide) (.slice p4 i q4) i (cellsE (L.take i)) rfl rfl (HS4.out.up1.blk) rfl (ent_one' (key, n)) HS4.out (by unfold maxLen; omega) (by omega) ?_; intro p5 q5 w5 hs5; have HS5 := Lib.hid hs5; clear hs5; have kn6 := cell_of_block (HS5.out.blkOf (g := b) (o := .cells #[.slice (some ⟨g, 0, none⟩) L.length q] 41 (0, 0)) (by simp)) 0 (v := .slice (some ⟨g, 0, none⟩) L.length q) rfl) | (refine step_append_sep (w := w) (e := 46) (B := w4.heap.size) rfl (.tmp 56) (.tmp 60) 39 rfl ie _ 2 24 Try.underlying39 IE.out rfl (by decide) (.slice p4 i q4) i (cellsE (L.take i)) rfl rfl (heap_alloc_self) rfl (ent_one' (key, n)) (HS4.out.forget (.cells #[.string key, .int .i64 n] 46)) (by unfold maxLen; omega) (by omega) ?_; intro p5 q5 w5 hs5; have HS5 := Lib.hid hs5; clear hs5; have kn6 := cell_of_block (HS5.out.blkOf (g := b) (o := .cells #[.slice (some ⟨g, 0, none⟩) L.length q] 41 (0, 0)) (by simp)) 0 (v := .slice (some ⟨g, 0, none⟩) L.length q) rfl)
            refine hK.out _ _ ?_ (fun hH13 => ?_)
            · (try dsimp only); (first | go_keep | assumption)
            clear hK K hH12
            (try simp only [Act.put, List.setIfInBounds_toArray, List.set_cons_zero, List.set_cons_succ])
            refine wpAnyH_ready (rs := [20]) (by kernel_rfl) (by simp) ?_
            refine AllReadyH.cons rfl (fun K hK => ?_) ?_
            · (refine step_append_src (w := w) (e := 46) rfl (.tmp 61) (.tmp 67) 39 rfl ie _ 2 24 Try.underlying39 IE.out rfl (by decide) (.slice p5 (i + 1) q5) (i + 1) (cellsE (L.take i) ++ (#[.string key, .int .i64 n] : Array Value).toList) rfl (some ⟨g, i * 2, none⟩) (L.length - i) (q - i) (cellsE (L.drop i)) rfl (by rw [cellsE_length, List.length_drop]) (cells_drops (HS5.out.rowOf (e := 46) (size := 2) (v := .slice (some ⟨g, 0, none⟩) L.length q) (n := L.length) (xs := cellsE L) (by simp)) i) HD1.out HS5.out (by unfold maxLen; omega) (by omega) ?_; intro p6 q6 w6 hs6; have HS6 := Lib.hid hs6; clear hs6; have kn7 := cell_of_block (HS6.out.blkOf (g := b) (o := .cells #[.slice (some ⟨g, 0, none⟩) L.length q] 41 (0, 0)) (by simp)) 0 (v := .slice (some ⟨g, 0, none⟩) L.length q) rfl; have fn7 := free_of_block (HS6.out.blkOf (g := b) (o := .cells #[.slice (some ⟨g, 0, none⟩) L.length q] 41 (0, 0)) (by simp)) 0)
              refine hK.out _ _ ?_ (fun hH14 => ?_)
              · (try dsimp only); (first | go_keep | assumption)
              clear hK K hH13
              (try simp only [Act.put, List.setIfInBounds_toArray, List.set_cons_zero, List.set_cons_succ])
              refine wpAnyH_take (i := 21) (v := ?_) rfl (by kernel_rfl) (by kernel_rfl) (by kernel_rfl) (fun _ _ _ h => h) (Or.inl ⟨by rfl, ?_⟩) (by assumption) ?_
              rotate_left
              · (intro w hSw; (try dsimp only at hSw); go_simp; try with_reducible rfl)
              (try simp only [Act.put, List.setIfInBounds_toArray, List.set_cons_zero, List.set_cons_succ])
              refine wpAnyH_take (i := 22) (v := ?_) rfl (by kernel_rfl) (by kernel_rfl) (by kernel_rfl) (fun _ _ _ h => h) (Or.inl ⟨by rfl, ?_⟩) (by assumption) ?_
              rotate_left
              · (intro w hSw; (try dsimp only at hSw); go_simp; try with_reducible rfl)
              (try simp only [Act.put, List.setIfInBounds_toArray, List.set_cons_zero, List.set_cons_succ])
              refine wpAnyH_take (i := 23) (v := ?_) rfl (by kernel_rfl) (by kernel_rfl) (by kernel_rfl) (fun _ _ _ h => h) (Or.inl ⟨by rfl, ?_⟩) (by assumption) ?_
              rotate_left
              · (intro w hSw; (try dsimp only at hSw); go_simp; try with_reducible rfl)
              (try simp only [Act.put, List.setIfInBounds_toArray, List.set_cons_zero, List.set_cons_succ])
              refine wpAnyH_done (by kernel_rfl) ?_ _
              refine tail_run rfl rfl ?_
              clear hH14
              go_simp
              go_wp2_with fail
              go_meet
              first | refine HF.out _ _ _ _ _ ?_ ?_ ((HS6.out.up2.tail).up1.store 0 _) | refine HF.out _ _ _ _ _ ?_ ?_ (((HS6.out.up1.tail).up2.tail).up1.store 0 _)
              · omega
              · rw [cellsE_append, List.append_assoc]; rfl
            exact AllReadyH.nil
          exact AllReadyH.nil
        exact AllReadyH.nil
      exact AllReadyH.nil
    exact AllReadyH.nil
  case rest =>
    obtain ⟨V2, hV2⟩ : ∃ V2 : World, V2 = wc := ⟨_, rfl⟩
    rw [← hV2] at hcut ⊢
    clear hV2
    have HC := Lib.hid hcut; clear hcut
    go_wp2_with fail
    go_ret2
    exact ⟨rfl, HC.out⟩

set_option maxRecDepth 100000 in
set_option maxHeartbeats 40000000 in
theorem rput_new_e {w W : World} {l : List Res} {b g q i : Nat} {L : List E} {key : ByteArray} (hr : RefAt W b L) (hi : i = below L key) (hs1 : Sep w W (blkRes b (.cells #[.slice (some ⟨g, 0, none⟩) i i] 41 (0, 0)) :: rowRes 46 2 (.slice (some ⟨g, 0, none⟩) i i) (i) (cellsE L) :: l)) (n : Int) (hkey : key.size ≤ 4096) (hl : L.length ≤ 100000) (hn : L.length ≠ 4096) (hh : here L key = false) (hil : L.length = i) :
    Calls Try.prog 12 #[.pointer (some ⟨b, 0, none⟩), .string key, .int .i64 n] W fun r W' => r = .returned (.tuple #[.bool true, .int .i64 0]) ∧ Sep w W' (refRes b (putL L (key, n)) :: l) := by
  obtain ⟨ie, IE⟩ := info_of Try.infoREnt
  have h' : ¬ ((4096 : Int) < (key.size : Int)) := by omega
  have HRA := Lib.hid hr
  have hbl : i ≤ L.length := by rw [hi]; exact below_le L key
  have hll : (L.take i ++ (key, n) :: L.drop i).length = L.length + 1 := by simp only [List.length_append, List.length_cons, List.length_take, List.length_drop]; omega
  have HF : Hid (∀ (W2 : World) (p2 : Option Addr) (q2 m : Nat) (xs : List Value), m = L.length + 1 → xs = cellsE (L.take i ++ (key, n) :: L.drop i) → Sep w W2 (blkRes b (.cells #[.slice p2 m q2] 41 (0, 0)) :: rowRes 46 2 (.slice p2 m q2) m xs :: l) → Sep w W2 (refRes b (putL L (key, n)) :: l)) := by
    intro W2 p2 q2 m xs hm hx h2
    subst hm hx
    unfold putL
    rw [if_neg (by rw [hh]; decide), ← hi]
    refine Sep.close (ps := refParts b (L.take i ++ (key, n) :: L.drop i)) (p2, q2) ?_ trivial
    simp only [refParts, List.cons_append, List.nil_append]
    rw [hll]
    exact h2
  have HI := Lib.hid hi
  have HL := Lib.hid hl
  have hn' : ¬ ((i : Int) = 4096) := by omega
  have hi2 : i ≤ 100000 := by omega
  have HIL := Lib.hid hil
  have k0 := cell_of_block hs1.blk 0 (v := .slice (some ⟨g, 0, none⟩) i i) rfl
  have HS := Lib.hid hs1
  have HM0 : Hid (Sep w (W.alloc (.cells #[] 46)).drew (rowRes 46 2 (.slice (some ⟨W.heap.size, 0, none⟩) 0 0) (0) ([]) :: blkRes b (.cells #[.slice (some ⟨g, 0, none⟩) i i] 41 (0, 0)) :: rowRes 46 2 (.slice (some ⟨g, 0, none⟩) i i) (i) (cellsE L) :: l)) := (HS.out.row_made 46 2).drew
  have HM01 : Hid (Sep w ((W.alloc (.cells #[] 46)).alloc (.cells #[.string key, .int .i64 n] 46)).drew (rowRes 46 2 (.slice (some ⟨W.heap.size, 0, none⟩) 0 0) (0) ([]) :: blkRes (W.heap.size + 1) (.cells #[.string key, .int .i64 n] 46 (0, 0)) :: blkRes b (.cells #[.slice (some ⟨g, 0, none⟩) i i] 41 (0, 0)) :: rowRes 46 2 (.slice (some ⟨g, 0, none⟩) i i) (i) (cellsE L) :: l)) := by
    have h := ((HS.out.row_made 46 2).alloc #[.string key, .int .i64 n] 46).up1.drew
    rw [show (W.alloc (.cells #[] 46)).heap.size = W.heap.size + 1 from by simp] at h
    exact h
  have HM10 : Hid (Sep w ((W.alloc (.cells #[.string key, .int .i64 n] 46)).alloc (.cells #[] 46)).drew (rowRes 46 2 (.slice (some ⟨W.heap.size + 1, 0, none⟩) 0 0) (0) ([]) :: blkRes W.heap.size (.cells #[.string key, .int .i64 n] 46 (0, 0)) :: blkRes b (.cells #[.slice (some ⟨g, 0, none⟩) i i] 41 (0, 0)) :: rowRes 46 2 (.slice (some ⟨g, 0, none⟩) i i) (i) (cellsE L) :: l)) := by
    have h := ((HS.out.alloc #[.string key, .int .i64 n] 46).row_made 46 2).drew
    rw [show (W.alloc (.cells #[.string key, .int .i64 n] 46)).heap.size = W.heap.size + 1 from by simp] at h
    exact h
  have ka0 : (W.alloc (.cells #[] 46)).cell? ⟨b, 0, none⟩ = some (.slice (some ⟨g, 0, none⟩) i i) := Lib.cell?_alloc_some _ k0
  have ka1 : (W.alloc (.cells #[.string key, .int .i64 n] 46)).cell? ⟨b, 0, none⟩ = some (.slice (some ⟨g, 0, none⟩) i i) := Lib.cell?_alloc_some _ k0
  have ka01 : ((W.alloc (.cells #[] 46)).alloc (.cells #[.string key, .int .i64 n] 46)).cell? ⟨b, 0, none⟩ = some (.slice (some ⟨g, 0, none⟩) i i) := Lib.cell?_alloc_some _ ka0
  have ka10 : ((W.alloc (.cells #[.string key, .int .i64 n] 46)).alloc (.cells #[] 46)).cell? ⟨b, 0, none⟩ = some (.slice (some ⟨g, 0, none⟩) i i) := Lib.cell?_alloc_some _ ka1
  have mixed : Try.prog.follows .mixedOrders = true := by kernel_rfl
  have SHM0 := Lib.hid (cells_takes (HM0.out.rowOf (e := 46) (size := 2) (v := .slice (some ⟨g, 0, none⟩) i i) (n := i) (xs := cellsE L) (by simp)) i)
  have SHM01 := Lib.hid (cells_takes (HM01.out.rowOf (e := 46) (size := 2) (v := .slice (some ⟨g, 0, none⟩) i i) (n := i) (xs := cellsE L) (by simp)) i)
  have SHM10 := Lib.hid (cells_takes (HM10.out.rowOf (e := 46) (size := 2) (v := .slice (some ⟨g, 0, none⟩) i i) (n := i) (xs := cellsE L) (by simp)) i)
  clear hr hs1 hh hll hi hil
  go_enter Try.func12, Try.ntmps12
  go_wp2_with fail
  refine (rat_any HRA.out HL.out key).mono ?_
  rintro r w1 ⟨rfl, rfl⟩
  rw [← HI.out]
  go_upto_region 9 with fail
  go_cut [] (fun wx => Sep w wx (refRes b (putL L (key, n)) :: l))
  case first =>
    have HT1 := Lib.hid (cellsE_one (L.take i))
    have HD1 := Lib.hid (cellsE_one (L.drop i))
    go_wp2_with fail
    refine wp_region_last (S := (fun w' => w'.cell? ⟨b, 0, none⟩ = some (.slice (some ⟨g, 0, none⟩) i i))) (by kernel_rfl) 23 _ rfl rfl rfl (by kernel_rfl) [22, 21, 20, 19, 18, 17, 16, 15, 14, 13, 12, 11, 10, 9, 8, 7, 6, 5, 4, 3, 2, 1, 0] (by kernel_rfl) (by kernel_rfl) ?_ (fun hHeld => ?_)
    · (try dsimp only); (first | go_keep | assumption)
    simp only [lull, List.setIfInBounds_toArray, List.set_cons_succ, List.set_cons_zero]
    refine wpAnyH_take (i := 0) (v := ?_) rfl (by kernel_rfl) (by kernel_rfl) (by kernel_rfl) (fun _ _ _ h => h) (Or.inl ⟨by rfl, ?_⟩) (by assumption) ?_
    rotate_left
    · (intro w hSw; (try dsimp only at hSw); go_simp; try with_reducible rfl)
    (try simp only [Act.put, List.setIfInBounds_toArray, List.set_cons_zero, List.set_cons_succ])
    refine wpAnyH_take (i := 2) (v := ?_) rfl (by kernel_rfl) (by kernel_rfl) (by kernel_rfl) (fun _ _ _ h => h) (Or.inl ⟨by rfl, ?_⟩) (by assumption) ?_
    rotate_left
    · (intro w hSw; (try dsimp only at hSw); go_simp; try with_reducible rfl)
    (try simp only [Act.put, List.setIfInBounds_toArray, List.set_cons_zero, List.set_cons_succ])
    refine wpAnyH_take (i := 3) (v := ?_) rfl (by kernel_rfl) (by kernel_rfl) (by kernel_rfl) (fun _ _ _ h => h) (Or.inl ⟨by rfl, ?_⟩) (by assumption) ?_
    rotate_left
    · (intro w hSw; (try dsimp only at hSw); go_simp; try with_reducible rfl)
    (try simp only [Act.put, List.setIfInBounds_toArray, List.set_cons_zero, List.set_cons_succ])
    refine wpAnyH_take (i := 4) (v := ?_) rfl (by kernel_rfl) (by kernel_rfl) (by kernel_rfl) (fun _ _ _ h => h) (Or.inl ⟨by rfl, ?_⟩) (by assumption) ?_
    rotate_left
    · (intro w hSw; (try dsimp only at hSw); go_simp; try with_reducible rfl)
    (try simp only [Act.put, List.setIfInBounds_toArray, List.set_cons_zero, List.set_cons_succ])
    refine wpAnyH_take (i := 5) (v := ?_) rfl (by kernel_rfl) (by kernel_rfl) (by kernel_rfl) (fun _ _ _ h => h) (Or.inl ⟨by rfl, ?_⟩) (by assumption) ?_
    rotate_left
    · (intro w hSw; (try dsimp only at hSw); go_simp; try with_reducible rfl)
    (try simp only [Act.put, List.setIfInBounds_toArray, List.set_cons_zero, List.set_cons_succ])
    refine wpAnyH_take (i := 6) (v := ?_) rfl (by kernel_rfl) (by kernel_rfl) (by kernel_rfl) (fun _ _ _ h => h) (Or.inl ⟨by rfl, ?_⟩) (by assumption) ?_
    rotate_left
    · (intro w hSw; (try dsimp only at hSw); go_simp; try with_reducible rfl)
    (try simp only [Act.put, List.setIfInBounds_toArray, List.set_cons_zero, List.set_cons_succ])
    refine wpAnyH_take (i := 7) (v := ?_) rfl (by kernel_rfl) (by kernel_rfl) (by kernel_rfl) (fun _ _ _ h => h) (Or.inl ⟨by rfl, ?_⟩) (by assumption) ?_
    rotate_left
    · (intro w hSw; (try dsimp only at hSw); go_simp; try with_reducible rfl)
    (try simp only [Act.put, List.setIfInBounds_toArray, List.set_cons_zero, List.set_cons_succ])
    refine wpAnyH_take (i := 9) (v := ?_) rfl (by kernel_rfl) (by kernel_rfl) (by kernel_rfl) (fun _ _ _ h => h) (Or.inl ⟨by rfl, ?_⟩) (by assumption) ?_
    rotate_left
    · (intro w hSw; (try dsimp only at hSw); go_simp; try with_reducible rfl)
    (try simp only [Act.put, List.setIfInBounds_toArray, List.set_cons_zero, List.set_cons_succ])
    refine wpAnyH_take (i := 10) (v := ?_) rfl (by kernel_rfl) (by kernel_rfl) (by kernel_rfl) (fun _ _ _ h => h) (Or.inl ⟨by rfl, ?_⟩) (by assumption) ?_
    rotate_left
    · (intro w hSw; (try dsimp only at hSw); go_simp; try with_reducible rfl)
    (try simp only [Act.put, List.setIfInBounds_toArray, List.set_cons_zero, List.set_cons_succ])
    refine wpAnyH_take (i := 11) (v := ?_) rfl (by kernel_rfl) (by kernel_rfl) (by kernel_rfl) (fun _ _ _ h => h) (Or.inl ⟨by rfl, ?_⟩) (by assumption) ?_
    rotate_left
    · (intro w hSw; (try dsimp only at hSw); go_simp; try with_reducible rfl)
    (try simp only [Act.put, List.setIfInBounds_toArray, List.set_cons_zero, List.set_cons_succ])
    refine wpAnyH_take (i := 14) (v := ?_) rfl (by kernel_rfl) (by kernel_rfl) (by kernel_rfl) (fun _ _ _ h => h) (Or.inl ⟨by rfl, ?_⟩) (by assumption) ?_
    rotate_left
    · (intro w hSw; (try dsimp only at hSw); go_simp; try with_reducible rfl)
    (try simp only [Act.put, List.setIfInBounds_toArray, List.set_cons_zero, List.set_cons_succ])
    refine wpAnyH_take (i := 15) (v := ?_) rfl (by kernel_rfl) (by kernel_rfl) (by kernel_rfl) (fun _ _ _ h => h) (Or.inl ⟨by rfl, ?_⟩) (by assumption) ?_
    rotate_left
    · (intro w hSw; (try dsimp only at hSw); go_simp; try with_reducible rfl)
    (try simp only [Act.put, List.setIfInBounds_toArray, List.set_cons_zero, List.set_cons_succ])
    refine wpAnyH_take (i := 16) (v := ?_) rfl (by kernel_rfl) (by kernel_rfl) (by kernel_rfl) (fun _ _ _ h => h) (Or.inl ⟨by rfl, ?_⟩) (by assumption) ?_
    rotate_left
    · (intro w hSw; (try dsimp only at hSw); go_simp; try with_reducible rfl)
    (try simp only [Act.put, List.setIfInBounds_toArray, List.set_cons_zero, List.set_cons_succ])
    refine wpAnyH_take (i := 17) (v := ?_) rfl (by kernel_rfl) (by kernel_rfl) (by kernel_rfl) (fun _ _ _ h => h) (Or.inl ⟨by rfl, ?_⟩) (by assumption) ?_
    rotate_left
    · (intro w hSw; (try dsimp only at hSw); go_simp; try with_reducible rfl)
    (try simp only [Act.put, List.setIfInBounds_toArray, List.set_cons_zero, List.set_cons_succ])
    refine wpAnyH_take (i := 18) (v := ?_) rfl (by kernel_rfl) (by kernel_rfl) (by kernel_rfl) (fun _ _ _ h => h) (Or.inl ⟨by rfl, ?_⟩) (by assumption) ?_
    rotate_left
    · (intro w hSw; (try dsimp only at hSw); go_simp; try with_reducible rfl)
    (try simp only [Act.put, List.setIfInBounds_toArray, List.set_cons_zero, List.set_cons_succ])
    refine wpAnyH_take (i := 19) (v := ?_) rfl (by kernel_rfl) (by kernel_rfl) (by kernel_rfl) (fun _ _ _ h => h) (Or.inl ⟨by rfl, ?_⟩) (by assumption) ?_
    rotate_left
    · (intro w hSw; (try dsimp only at hSw); go_simp; try with_reducible rfl)
    (try simp only [Act.put, List.setIfInBounds_toArray, List.set_cons_zero, List.set_cons_succ])
    refine wpAnyH_ready (rs := [1, 12]) (by kernel_rfl) (by simp) ?_
    refine AllReadyH.cons rfl (fun K hK => ?_) ?_
    · go_simp
      refine hK.out _ _ ?_ (fun hH1 => ?_)
      · (try dsimp only); (first | go_keep | assumption)
      clear hK K hHeld
      (try simp only [Act.put, List.setIfInBounds_toArray, List.set_cons_zero, List.set_cons_succ])
      refine wpAnyH_ready (rs := [8, 12]) (by kernel_rfl) (by simp) ?_
      refine AllReadyH.cons rfl (fun K hK => ?_) ?_
      · first | (refine step_append_src (w := w) (e := 46) rfl (.tmp 49) (.tmp 55) 39 rfl ie _ 2 24 Try.underlying39 IE.out rfl (by decide) (.slice (some ⟨W.heap.size, 0, none⟩) 0 0) 0 [] rfl (some ⟨g, 0, none⟩) i i (cellsE (L.take i)) rfl (by rw [cellsE_length, List.length_take, Nat.min_eq_left hbl]) SHM0.out HT1.out HM0.out (by unfold maxLen; omega) (by omega) ?_; intro p4 q4 w4 hs4; rw [Nat.zero_add, List.nil_append] at hs4; rw [Nat.zero_add]; have HS4 := Lib.hid hs4; clear hs4; have kn4 := cell_of_block (HS4.out.blkOf (g := b) (o := .cells #[.slice (some ⟨g, 0, none⟩) i i] 41 (0, 0)) (by simp)) 0 (v := .slice (some ⟨g, 0, none⟩) i i) rfl; have kn5 : (w4.alloc (.cells #[.string key, .int .i64 n] 46)).cell? ⟨b, 0, none⟩ = some (.slice (some ⟨g, 0, none⟩) i i) := Lib.cell?_alloc_some _ kn4) | (refine step_append_src (w := w) (e := 46) rfl (.tmp 49) (.tmp 55) 39 rfl ie _ 2 24 Try.underlying39 IE.out rfl (by decide) (.slice (some ⟨W.heap.size, 0, none⟩) 0 0) 0 [] rfl (some ⟨g, 0, none⟩) i i (cellsE (L.take i)) rfl (by rw [cellsE_length, List.length_take, Nat.min_eq_left hbl]) SHM01.out HT1.out HM01.out (by unfold maxLen; omega) (by omega) ?_; intro p4 q4 w4 hs4; rw [Nat.zero_add, List.nil_append] at hs4; rw [Nat.zero_add]; have HS4 := Lib.hid hs4; clear hs4; have kn4 := cell_of_block (HS4.out.blkOf (g := b) (o := .cells #[.slice (some ⟨g, 0, none⟩) i i] 41 (0, 0)) (by simp)) 0 (v := .slice (some ⟨g, 0, none⟩) i i) rfl) | (refine step_append_src (w := w) (e := 46) rfl (.tmp 49) (.tmp 55) 39 rfl ie _ 2 24 Try.underlying39 IE.out rfl (by decide) (.slice (some ⟨W.heap.size + 1, 0, none⟩) 0 0) 0 [] rfl (some ⟨g, 0, none⟩) i i (cellsE (L.take i)) rfl (by rw [cellsE_length, List.length_take, Nat.min_eq_left hbl]) SHM10.out HT1.out HM10.out (by unfold maxLen; omega) (by omega) ?_; intro p4 q4 w4 hs4; rw [Nat.zero_add, List.nil_append] at hs4; rw [Nat.zero_add]; have HS4 := Lib.hid hs4; clear hs4; have kn4 := cell_of_block (HS4.out.blkOf (g := b) (o := .cells #[.slice (some ⟨g, 0, none⟩) i i] 41 (0, 0)) (by simp)) 0 (v := .slice (some ⟨g, 0, none⟩) i i) rfl)
        refine hK.out _ _ ?_ (fun hH2 => ?_)
        · (try dsimp only); (first | go_keep | assumption)
        clear hK K hH1
        (try simp only [Act.put, List.setIfInBounds_toArray, List.set_cons_zero, List.set_cons_succ])
        refine wpAnyH_ready (rs := [12]) (by kernel_rfl) (by simp) ?_
        refine AllReadyH.cons rfl (fun K hK => ?_) ?_
        · go_simp
          refine hK.out _ _ ?_ (fun hH3 => ?_)
          · (try dsimp only); (first | go_keep | assumption)
          clear hK K hH2
          (try simp only [Act.put, List.setIfInBounds_toArray, List.set_cons_zero, List.set_cons_succ])
          refine wpAnyH_ready (rs := [13]) (by kernel_rfl) (by simp) ?_
          refine AllReadyH.cons rfl (fun K hK => ?_) ?_
          · first | (refine step_append_sep (w := w) (e := 46) (B := (W.heap.size + 1)) rfl (.tmp 56) (.tmp 60) 39 rfl ie _ 2 24 Try.underlying39 IE.out rfl (by decide) (.slice p4 i q4) i (cellsE (L.take i)) rfl rfl (HS4.out.up1.blk) rfl (ent_one' (key, n)) HS4.out (by unfold maxLen; omega) (by omega) ?_; intro p5 q5 w5 hs5; have HS5 := Lib.hid hs5; clear hs5; have kn6 := cell_of_block (HS5.out.blkOf (g := b) (o := .cells #[.slice (some ⟨g, 0, none⟩) i i] 41 (0, 0)) (by simp)) 0 (v := .slice (some ⟨g, 0, none⟩) i i) rfl) | (refine step_append_sep (w := w) (e := 46) (B := W.heap.size) rfl (.tmp 56) (.tmp 60) 39 rfl ie _ 2 24 Try.underlying39 IE.out rfl (by decide) (.slice p4 i q4) i (cellsE (L.take i)) rfl rfl (HS4.out.up1.blk) rfl (ent_one' (key, n)) HS4.out (by unfold maxLen; omega) (by omega) ?_; intro p5 q5 w5 hs5; have HS5 := Lib.hid hs5; clear hs5; have kn6 := cell_of_block (HS5.out.blkOf (g := b) (o := .cells #[.slice (some ⟨g, 0, none⟩) i i] 41 (0, 0)) (by simp)) 0 (v := .slice (some ⟨g, 0, none⟩) i i) rfl) | (refine step_append_sep (w := w) (e := 46) (B := w4.heap.size) rfl (.tmp 56) (.tmp 60) 39 rfl ie _ 2 24 Try.underlying39 IE.out rfl (by decide) (.slice p4 i q4) i (cellsE (L.take i)) rfl rfl (heap_alloc_self) rfl (ent_one' (key, n)) (HS4.out.forget (.cells #[.string key, .int .i64 n] 46)) (by unfold maxLen; omega) (by omega) ?_; intro p5 q5 w5 hs5; have HS5 := Lib.hid hs5; clear hs5; have kn6 := cell_of_block (HS5.out.blkOf (g := b) (o := .cells #[.slice (some ⟨g, 0, none⟩) i i] 41 (0, 0)) (by simp)) 0 (v := .slice (some ⟨g, 0, none⟩) i i) rfl)
            refine hK.out _ _ ?_ (fun hH4 => ?_)
            · (try dsimp only); (first | go_keep | assumption)
            clear hK K hH3
            (try simp only [Act.put, List.setIfInBounds_toArray, List.set_cons_zero, List.set_cons_succ])
            refine wpAnyH_ready (rs := [20]) (by kernel_rfl) (by simp) ?_
            refine AllReadyH.cons rfl (fun K hK => ?_) ?_
            · (refine step_append_src (w := w) (e := 46) rfl (.tmp 61) (.tmp 67) 39 rfl ie _ 2 24 Try.underlying39 IE.out rfl (by decide) (.slice p5 (i + 1) q5) (i + 1) (cellsE (L.take i) ++ (#[.string key, .int .i64 n] : Array Value).toList) rfl (some ⟨g, 0, none⟩) 0 0 (cellsE []) rfl rfl no_cells (cellsE_one []) HS5.out (by unfold maxLen; omega) (by omega) ?_; intro p6 q6 w6 hs6; have HS6 := Lib.hid hs6; clear hs6; have kn7 := cell_of_block (HS6.out.blkOf (g := b) (o := .cells #[.slice (some ⟨g, 0, none⟩) i i] 41 (0, 0)) (by simp)) 0 (v := .slice (some ⟨g, 0, none⟩) i i) rfl; have fn7 := free_of_block (HS6.out.blkOf (g := b) (o := .cells #[.slice (some ⟨g, 0, none⟩) i i] 41 (0, 0)) (by simp)) 0)
              refine hK.out _ _ ?_ (fun hH5 => ?_)
              · (try dsimp only); (first | go_keep | assumption)
              clear hK K hH4
              (try simp only [Act.put, List.setIfInBounds_toArray, List.set_cons_zero, List.set_cons_succ])
              refine wpAnyH_take (i := 21) (v := ?_) rfl (by kernel_rfl) (by kernel_rfl) (by kernel_rfl) (fun _ _ _ h => h) (Or.inl ⟨by rfl, ?_⟩) (by assumption) ?_
              rotate_left
              · (intro w hSw; (try dsimp only at hSw); go_simp; try with_reducible rfl)
              (try simp only [Act.put, List.setIfInBounds_toArray, List.set_cons_zero, List.set_cons_succ])
              refine wpAnyH_take (i := 22) (v := ?_) rfl (by kernel_rfl) (by kernel_rfl) (by kernel_rfl) (fun _ _ _ h => h) (Or.inl ⟨by rfl, ?_⟩) (by assumption) ?_
              rotate_left
              · (intro w hSw; (try dsimp only at hSw); go_simp; try with_reducible rfl)
              (try simp only [Act.put, List.setIfInBounds_toArray, List.set_cons_zero, List.set_cons_succ])
              refine wpAnyH_take (i := 23) (v := ?_) rfl (by kernel_rfl) (by kernel_rfl) (by kernel_rfl) (fun _ _ _ h => h) (Or.inl ⟨by rfl, ?_⟩) (by assumption) ?_
              rotate_left
              · (intro w hSw; (try dsimp only at hSw); go_simp; try with_reducible rfl)
              (try simp only [Act.put, List.setIfInBounds_toArray, List.set_cons_zero, List.set_cons_succ])
              refine wpAnyH_done (by kernel_rfl) ?_ _
              refine tail_run rfl rfl ?_
              clear hH5
              go_simp
              go_wp2_with fail
              go_meet
              first | refine HF.out _ _ _ _ _ ?_ ?_ ((HS6.out.up2.tail).up1.store 0 _) | refine HF.out _ _ _ _ _ ?_ ?_ (((HS6.out.up1.tail).up2.tail).up1.store 0 _)
              · have := HIL.out; omega
              · rw [show L.drop i = [] from List.drop_of_length_le (by have := HIL.out; omega), cellsE_append]; simp [cellsE]; rfl
            exact AllReadyH.nil
          exact AllReadyH.nil
        exact AllReadyH.nil
      refine AllReadyH.cons rfl (fun K hK => ?_) ?_
      · go_simp
        refine hK.out _ _ ?_ (fun hH6 => ?_)
        · (try dsimp only); (first | go_keep | assumption)
        clear hK K hH1
        (try simp only [Act.put, List.setIfInBounds_toArray, List.set_cons_zero, List.set_cons_succ])
        refine wpAnyH_ready (rs := [8]) (by kernel_rfl) (by simp) ?_
        refine AllReadyH.cons rfl (fun K hK => ?_) ?_
        · first | (refine step_append_src (w := w) (e := 46) rfl (.tmp 49) (.tmp 55) 39 rfl ie _ 2 24 Try.underlying39 IE.out rfl (by decide) (.slice (some ⟨W.heap.size, 0, none⟩) 0 0) 0 [] rfl (some ⟨g, 0, none⟩) i i (cellsE (L.take i)) rfl (by rw [cellsE_length, List.length_take, Nat.min_eq_left hbl]) SHM0.out HT1.out HM0.out (by unfold maxLen; omega) (by omega) ?_; intro p4 q4 w4 hs4; rw [Nat.zero_add, List.nil_append] at hs4; rw [Nat.zero_add]; have HS4 := Lib.hid hs4; clear hs4; have kn4 := cell_of_block (HS4.out.blkOf (g := b) (o := .cells #[.slice (some ⟨g, 0, none⟩) i i] 41 (0, 0)) (by simp)) 0 (v := .slice (some ⟨g, 0, none⟩) i i) rfl; have kn5 : (w4.alloc (.cells #[.string key, .int .i64 n] 46)).cell? ⟨b, 0, none⟩ = some (.slice (some ⟨g, 0, none⟩) i i) := Lib.cell?_alloc_some _ kn4) | (refine step_append_src (w := w) (e := 46) rfl (.tmp 49) (.tmp 55) 39 rfl ie _ 2 24 Try.underlying39 IE.out rfl (by decide) (.slice (some ⟨W.heap.size, 0, none⟩) 0 0) 0 [] rfl (some ⟨g, 0, none⟩) i i (cellsE (L.take i)) rfl (by rw [cellsE_length, List.length_take, Nat.min_eq_left hbl]) SHM01.out HT1.out HM01.out (by unfold maxLen; omega) (by omega) ?_; intro p4 q4 w4 hs4; rw [Nat.zero_add, List.nil_append] at hs4; rw [Nat.zero_add]; have HS4 := Lib.hid hs4; clear hs4; have kn4 := cell_of_block (HS4.out.blkOf (g := b) (o := .cells #[.slice (some ⟨g, 0, none⟩) i i] 41 (0, 0)) (by simp)) 0 (v := .slice (some ⟨g, 0, none⟩) i i) rfl) | (refine step_append_src (w := w) (e := 46) rfl (.tmp 49) (.tmp 55) 39 rfl ie _ 2 24 Try.underlying39 IE.out rfl (by decide) (.slice (some ⟨W.heap.size + 1, 0, none⟩) 0 0) 0 [] rfl (some ⟨g, 0, none⟩) i i (cellsE (L.take i)) rfl (by rw [cellsE_length, List.length_take, Nat.min_eq_left hbl]) SHM10.out HT1.out HM10.out (by unfold maxLen; omega) (by omega) ?_; intro p4 q4 w4 hs4; rw [Nat.zero_add, List.nil_append] at hs4; rw [Nat.zero_add]; have HS4 := Lib.hid hs4; clear hs4; have kn4 := cell_of_block (HS4.out.blkOf (g := b) (o := .cells #[.slice (some ⟨g, 0, none⟩) i i] 41 (0, 0)) (by simp)) 0 (v := .slice (some ⟨g, 0, none⟩) i i) rfl)
          refine hK.out _ _ ?_ (fun hH7 => ?_)
          · (try dsimp only); (first | go_keep | assumption)
          clear hK K hH6
          (try simp only [Act.put, List.setIfInBounds_toArray, List.set_cons_zero, List.set_cons_succ])
          refine wpAnyH_ready (rs := [13]) (by kernel_rfl) (by simp) ?_
          refine AllReadyH.cons rfl (fun K hK => ?_) ?_
          · first | (refine step_append_sep (w := w) (e := 46) (B := (W.heap.size + 1)) rfl (.tmp 56) (.tmp 60) 39 rfl ie _ 2 24 Try.underlying39 IE.out rfl (by decide) (.slice p4 i q4) i (cellsE (L.take i)) rfl rfl (HS4.out.up1.blk) rfl (ent_one' (key, n)) HS4.out (by unfold maxLen; omega) (by omega) ?_; intro p5 q5 w5 hs5; have HS5 := Lib.hid hs5; clear hs5; have kn6 := cell_of_block (HS5.out.blkOf (g := b) (o := .cells #[.slice (some ⟨g, 0, none⟩) i i] 41 (0, 0)) (by simp)) 0 (v := .slice (some ⟨g, 0, none⟩) i i) rfl) | (refine step_append_sep (w := w) (e := 46) (B := W.heap.size) rfl (.tmp 56) (.tmp 60) 39 rfl ie _ 2 24 Try.underlying39 IE.out rfl (by decide) (.slice p4 i q4) i (cellsE (L.take i)) rfl rfl (HS4.out.up1.blk) rfl (ent_one' (key, n)) HS4.out (by unfold maxLen; omega) (by omega) ?_; intro p5 q5 w5 hs5; have HS5 := Lib.hid hs5; clear hs5; have kn6 := cell_of_block (HS5.out.blkOf (g := b) (o := .cells #[.slice (some ⟨g, 0, none⟩) i i] 41 (0, 0)) (by simp)) 0 (v := .slice (some ⟨g, 0, none⟩) i i) rfl) | (refine step_append_sep (w := w) (e := 46) (B := w4.heap.size) rfl (.tmp 56) (.tmp 60) 39 rfl ie _ 2 24 Try.underlying39 IE.out rfl (by decide) (.slice p4 i q4) i (cellsE (L.take i)) rfl rfl (heap_alloc_self) rfl (ent_one' (key, n)) (HS4.out.forget (.cells #[.string key, .int .i64 n] 46)) (by unfold maxLen; omega) (by omega) ?_; intro p5 q5 w5 hs5; have HS5 := Lib.hid hs5; clear hs5; have kn6 := cell_of_block (HS5.out.blkOf (g := b) (o := .cells #[.slice (some ⟨g, 0, none⟩) i i] 41 (0, 0)) (by simp)) 0 (v := .slice (some ⟨g, 0, none⟩) i i) rfl)
            refine hK.out _ _ ?_ (fun hH8 => ?_)
            · (try dsimp only); (first | go_keep | assumption)
            clear hK K hH7
            (try simp only [Act.put, List.setIfInBounds_toArray, List.set_cons_zero, List.set_cons_succ])
            refine wpAnyH_ready (rs := [20]) (by kernel_rfl) (by simp) ?_
            refine AllReadyH.cons rfl (fun K hK => ?_) ?_
            · (refine step_append_src (w := w) (e := 46) rfl (.tmp 61) (.tmp 67) 39 rfl ie _ 2 24 Try.underlying39 IE.out rfl (by decide) (.slice p5 (i + 1) q5) (i + 1) (cellsE (L.take i) ++ (#[.string key, .int .i64 n] : Array Value).toList) rfl (some ⟨g, 0, none⟩) 0 0 (cellsE []) rfl rfl no_cells (cellsE_one []) HS5.out (by unfold maxLen; omega) (by omega) ?_; intro p6 q6 w6 hs6; have HS6 := Lib.hid hs6; clear hs6; have kn7 := cell_of_block (HS6.out.blkOf (g := b) (o := .cells #[.slice (some ⟨g, 0, none⟩) i i] 41 (0, 0)) (by simp)) 0 (v := .slice (some ⟨g, 0, none⟩) i i) rfl; have fn7 := free_of_block (HS6.out.blkOf (g := b) (o := .cells #[.slice (some ⟨g, 0, none⟩) i i] 41 (0, 0)) (by simp)) 0)
              refine hK.out _ _ ?_ (fun hH9 => ?_)
              · (try dsimp only); (first | go_keep | assumption)
              clear hK K hH8
              (try simp only [Act.put, List.setIfInBounds_toArray, List.set_cons_zero, List.set_cons_succ])
              refine wpAnyH_take (i := 21) (v := ?_) rfl (by kernel_rfl) (by kernel_rfl) (by kernel_rfl) (fun _ _ _ h => h) (Or.inl ⟨by rfl, ?_⟩) (by assumption) ?_
              rotate_left
              · (intro w hSw; (try dsimp only at hSw); go_simp; try with_reducible rfl)
              (try simp only [Act.put, List.setIfInBounds_toArray, List.set_cons_zero, List.set_cons_succ])
              refine wpAnyH_take (i := 22) (v := ?_) rfl (by kernel_rfl) (by kernel_rfl) (by kernel_rfl) (fun _ _ _ h => h) (Or.inl ⟨by rfl, ?_⟩) (by assumption) ?_
              rotate_left
              · (intro w hSw; (try dsimp only at hSw); go_simp; try with_reducible rfl)
              (try simp only [Act.put, List.setIfInBounds_toArray, List.set_cons_zero, List.set_cons_succ])
              refine wpAnyH_take (i := 23) (v := ?_) rfl (by kernel_rfl) (by kernel_rfl) (by kernel_rfl) (fun _ _ _ h => h) (Or.inl ⟨by rfl, ?_⟩) (by assumption) ?_
              rotate_left
              · (intro w hSw; (try dsimp only at hSw); go_simp; try with_reducible rfl)
              (try simp only [Act.put, List.setIfInBounds_toArray, List.set_cons_zero, List.set_cons_succ])
              refine wpAnyH_done (by kernel_rfl) ?_ _
              refine tail_run rfl rfl ?_
              clear hH9
              go_simp
              go_wp2_with fail
              go_meet
              first | refine HF.out _ _ _ _ _ ?_ ?_ ((HS6.out.up2.tail).up1.store 0 _) | refine HF.out _ _ _ _ _ ?_ ?_ (((HS6.out.up1.tail).up2.tail).up1.store 0 _)
              · have := HIL.out; omega
              · rw [show L.drop i = [] from List.drop_of_length_le (by have := HIL.out; omega), cellsE_append]; simp [cellsE]; rfl
            exact AllReadyH.nil
          exact AllReadyH.nil
        exact AllReadyH.nil
      exact AllReadyH.nil
    refine AllReadyH.cons rfl (fun K hK => ?_) ?_
    · go_simp
      refine hK.out _ _ ?_ (fun hH10 => ?_)
      · (try dsimp only); (first | go_keep | assumption)
      clear hK K hHeld
      (try simp only [Act.put, List.setIfInBounds_toArray, List.set_cons_zero, List.set_cons_succ])
      refine wpAnyH_ready (rs := [1]) (by kernel_rfl) (by simp) ?_
      refine AllReadyH.cons rfl (fun K hK => ?_) ?_
      · go_simp
        refine hK.out _ _ ?_ (fun hH11 => ?_)
        · (try dsimp only); (first | go_keep | assumption)
        clear hK K hH10
        (try simp only [Act.put, List.setIfInBounds_toArray, List.set_cons_zero, List.set_cons_succ])
        refine wpAnyH_ready (rs := [8]) (by kernel_rfl) (by simp) ?_
        refine AllReadyH.cons rfl (fun K hK => ?_) ?_
        · first | (refine step_append_src (w := w) (e := 46) rfl (.tmp 49) (.tmp 55) 39 rfl ie _ 2 24 Try.underlying39 IE.out rfl (by decide) (.slice (some ⟨W.heap.size, 0, none⟩) 0 0) 0 [] rfl (some ⟨g, 0, none⟩) i i (cellsE (L.take i)) rfl (by rw [cellsE_length, List.length_take, Nat.min_eq_left hbl]) SHM0.out HT1.out HM0.out (by unfold maxLen; omega) (by omega) ?_; intro p4 q4 w4 hs4; rw [Nat.zero_add, List.nil_append] at hs4; rw [Nat.zero_add]; have HS4 := Lib.hid hs4; clear hs4; have kn4 := cell_of_block (HS4.out.blkOf (g := b) (o := .cells #[.slice (some ⟨g, 0, none⟩) i i] 41 (0, 0)) (by simp)) 0 (v := .slice (some ⟨g, 0, none⟩) i i) rfl; have kn5 : (w4.alloc (.cells #[.string key, .int .i64 n] 46)).cell? ⟨b, 0, none⟩ = some (.slice (some ⟨g, 0, none⟩) i i) := Lib.cell?_alloc_some _ kn4) | (refine step_append_src (w := w) (e := 46) rfl (.tmp 49) (.tmp 55) 39 rfl ie _ 2 24 Try.underlying39 IE.out rfl (by decide) (.slice (some ⟨W.heap.size, 0, none⟩) 0 0) 0 [] rfl (some ⟨g, 0, none⟩) i i (cellsE (L.take i)) rfl (by rw [cellsE_length, List.length_take, Nat.min_eq_left hbl]) SHM01.out HT1.out HM01.out (by unfold maxLen; omega) (by omega) ?_; intro p4 q4 w4 hs4; rw [Nat.zero_add, List.nil_append] at hs4; rw [Nat.zero_add]; have HS4 := Lib.hid hs4; clear hs4; have kn4 := cell_of_block (HS4.out.blkOf (g := b) (o := .cells #[.slice (some ⟨g, 0, none⟩) i i] 41 (0, 0)) (by simp)) 0 (v := .slice (some ⟨g, 0, none⟩) i i) rfl) | (refine step_append_src (w := w) (e := 46) rfl (.tmp 49) (.tmp 55) 39 rfl ie _ 2 24 Try.underlying39 IE.out rfl (by decide) (.slice (some ⟨W.heap.size + 1, 0, none⟩) 0 0) 0 [] rfl (some ⟨g, 0, none⟩) i i (cellsE (L.take i)) rfl (by rw [cellsE_length, List.length_take, Nat.min_eq_left hbl]) SHM10.out HT1.out HM10.out (by unfold maxLen; omega) (by omega) ?_; intro p4 q4 w4 hs4; rw [Nat.zero_add, List.nil_append] at hs4; rw [Nat.zero_add]; have HS4 := Lib.hid hs4; clear hs4; have kn4 := cell_of_block (HS4.out.blkOf (g := b) (o := .cells #[.slice (some ⟨g, 0, none⟩) i i] 41 (0, 0)) (by simp)) 0 (v := .slice (some ⟨g, 0, none⟩) i i) rfl)
          refine hK.out _ _ ?_ (fun hH12 => ?_)
          · (try dsimp only); (first | go_keep | assumption)
          clear hK K hH11
          (try simp only [Act.put, List.setIfInBounds_toArray, List.set_cons_zero, List.set_cons_succ])
          refine wpAnyH_ready (rs := [13]) (by kernel_rfl) (by simp) ?_
          refine AllReadyH.cons rfl (fun K hK => ?_) ?_
          · first | (refine step_append_sep (w := w) (e := 46) (B := (W.heap.size + 1)) rfl (.tmp 56) (.tmp 60) 39 rfl ie _ 2 24 Try.underlying39 IE.out rfl (by decide) (.slice p4 i q4) i (cellsE (L.take i)) rfl rfl (HS4.out.up1.blk) rfl (ent_one' (key, n)) HS4.out (by unfold maxLen; omega) (by omega) ?_; intro p5 q5 w5 hs5; have HS5 := Lib.hid hs5; clear hs5; have kn6 := cell_of_block (HS5.out.blkOf (g := b) (o := .cells #[.slice (some ⟨g, 0, none⟩) i i] 41 (0, 0)) (by simp)) 0 (v := .slice (some ⟨g, 0, none⟩) i i) rfl) | (refine step_append_sep (w := w) (e := 46) (B := W.heap.size) rfl (.tmp 56) (.tmp 60) 39 rfl ie _ 2 24 Try.underlying39 IE.out rfl (by decide) (.slice p4 i q4) i (cellsE (L.take i)) rfl rfl (HS4.out.up1.blk) rfl (ent_one' (key, n)) HS4.out (by unfold maxLen; omega) (by omega) ?_; intro p5 q5 w5 hs5; have HS5 := Lib.hid hs5; clear hs5; have kn6 := cell_of_block (HS5.out.blkOf (g := b) (o := .cells #[.slice (some ⟨g, 0, none⟩) i i] 41 (0, 0)) (by simp)) 0 (v := .slice (some ⟨g, 0, none⟩) i i) rfl) | (refine step_append_sep (w := w) (e := 46) (B := w4.heap.size) rfl (.tmp 56) (.tmp 60) 39 rfl ie _ 2 24 Try.underlying39 IE.out rfl (by decide) (.slice p4 i q4) i (cellsE (L.take i)) rfl rfl (heap_alloc_self) rfl (ent_one' (key, n)) (HS4.out.forget (.cells #[.string key, .int .i64 n] 46)) (by unfold maxLen; omega) (by omega) ?_; intro p5 q5 w5 hs5; have HS5 := Lib.hid hs5; clear hs5; have kn6 := cell_of_block (HS5.out.blkOf (g := b) (o := .cells #[.slice (some ⟨g, 0, none⟩) i i] 41 (0, 0)) (by simp)) 0 (v := .slice (some ⟨g, 0, none⟩) i i) rfl)
            refine hK.out _ _ ?_ (fun hH13 => ?_)
            · (try dsimp only); (first | go_keep | assumption)
            clear hK K hH12
            (try simp only [Act.put, List.setIfInBounds_toArray, List.set_cons_zero, List.set_cons_succ])
            refine wpAnyH_ready (rs := [20]) (by kernel_rfl) (by simp) ?_
            refine AllReadyH.cons rfl (fun K hK => ?_) ?_
            · (refine step_append_src (w := w) (e := 46) rfl (.tmp 61) (.tmp 67) 39 rfl ie _ 2 24 Try.underlying39 IE.out rfl (by decide) (.slice p5 (i + 1) q5) (i + 1) (cellsE (L.take i) ++ (#[.string key, .int .i64 n] : Array Value).toList) rfl (some ⟨g, 0, none⟩) 0 0 (cellsE []) rfl rfl no_cells (cellsE_one []) HS5.out (by unfold maxLen; omega) (by omega) ?_; intro p6 q6 w6 hs6; have HS6 := Lib.hid hs6; clear hs6; have kn7 := cell_of_block (HS6.out.blkOf (g := b) (o := .cells #[.slice (some ⟨g, 0, none⟩) i i] 41 (0, 0)) (by simp)) 0 (v := .slice (some ⟨g, 0, none⟩) i i) rfl; have fn7 := free_of_block (HS6.out.blkOf (g := b) (o := .cells #[.slice (some ⟨g, 0, none⟩) i i] 41 (0, 0)) (by simp)) 0)
              refine hK.out _ _ ?_ (fun hH14 => ?_)
              · (try dsimp only); (first | go_keep | assumption)
              clear hK K hH13
              (try simp only [Act.put, List.setIfInBounds_toArray, List.set_cons_zero, List.set_cons_succ])
              refine wpAnyH_take (i := 21) (v := ?_) rfl (by kernel_rfl) (by kernel_rfl) (by kernel_rfl) (fun _ _ _ h => h) (Or.inl ⟨by rfl, ?_⟩) (by assumption) ?_
              rotate_left
              · (intro w hSw; (try dsimp only at hSw); go_simp; try with_reducible rfl)
              (try simp only [Act.put, List.setIfInBounds_toArray, List.set_cons_zero, List.set_cons_succ])
              refine wpAnyH_take (i := 22) (v := ?_) rfl (by kernel_rfl) (by kernel_rfl) (by kernel_rfl) (fun _ _ _ h => h) (Or.inl ⟨by rfl, ?_⟩) (by assumption) ?_
              rotate_left
              · (intro w hSw; (try dsimp only at hSw); go_simp; try with_reducible rfl)
              (try simp only [Act.put, List.setIfInBounds_toArray, List.set_cons_zero, List.set_cons_succ])
              refine wpAnyH_take (i := 23) (v := ?_) rfl (by kernel_rfl) (by kernel_rfl) (by kernel_rfl) (fun _ _ _ h => h) (Or.inl ⟨by rfl, ?_⟩) (by assumption) ?_
              rotate_left
              · (intro w hSw; (try dsimp only at hSw); go_simp; try with_reducible rfl)
              (try simp only [Act.put, List.setIfInBounds_toArray, List.set_cons_zero, List.set_cons_succ])
              refine wpAnyH_done (by kernel_rfl) ?_ _
              refine tail_run rfl rfl ?_
              clear hH14
              go_simp
              go_wp2_with fail
              go_meet
              first | refine HF.out _ _ _ _ _ ?_ ?_ ((HS6.out.up2.tail).up1.store 0 _) | refine HF.out _ _ _ _ _ ?_ ?_ (((HS6.out.up1.tail).up2.tail).up1.store 0 _)
              · have := HIL.out; omega
              · rw [show L.drop i = [] from List.drop_of_length_le (by have := HIL.out; omega), cellsE_append]; simp [cellsE]; rfl
            exact AllReadyH.nil
          exact AllReadyH.nil
        exact AllReadyH.nil
      exact AllReadyH.nil
    exact AllReadyH.nil
  case rest =>
    obtain ⟨V2, hV2⟩ : ∃ V2 : World, V2 = wc := ⟨_, rfl⟩
    rw [← hV2] at hcut ⊢
    clear hV2
    have HC := Lib.hid hcut; clear hcut
    go_wp2_with fail
    go_ret2
    exact ⟨rfl, HC.out⟩

set_option maxRecDepth 100000 in
set_option maxHeartbeats 40000000 in
theorem rput_new_n {w W : World} {l : List Res} {b g q i : Nat} {L : List E} {key : ByteArray} (hr : RefAt W b L) (hi : i = below L key) (hs1 : Sep w W (blkRes b (.cells #[.slice none 0 0] 41 (0, 0)) :: rowRes 46 2 (.slice none 0 0) (0) (cellsE L) :: l)) (n : Int) (hkey : key.size ≤ 4096) (hl : L.length ≤ 100000) (hn : L.length ≠ 4096) (hh : here L key = false) (hil : L.length = 0) (hi0 : i = 0) :
    Calls Try.prog 12 #[.pointer (some ⟨b, 0, none⟩), .string key, .int .i64 n] W fun r W' => r = .returned (.tuple #[.bool true, .int .i64 0]) ∧ Sep w W' (refRes b (putL L (key, n)) :: l) := by
  obtain ⟨ie, IE⟩ := info_of Try.infoREnt
  have h' : ¬ ((4096 : Int) < (key.size : Int)) := by omega
  have HRA := Lib.hid hr
  have hbl : i ≤ L.length := by rw [hi]; exact below_le L key
  have hll : (L.take i ++ (key, n) :: L.drop i).length = L.length + 1 := by simp only [List.length_append, List.length_cons, List.length_take, List.length_drop]; omega
  have HF : Hid (∀ (W2 : World) (p2 : Option Addr) (q2 m : Nat) (xs : List Value), m = L.length + 1 → xs = cellsE (L.take i ++ (key, n) :: L.drop i) → Sep w W2 (blkRes b (.cells #[.slice p2 m q2] 41 (0, 0)) :: rowRes 46 2 (.slice p2 m q2) m xs :: l) → Sep w W2 (refRes b (putL L (key, n)) :: l)) := by
    intro W2 p2 q2 m xs hm hx h2
    subst hm hx
    unfold putL
    rw [if_neg (by rw [hh]; decide), ← hi]
    refine Sep.close (ps := refParts b (L.take i ++ (key, n) :: L.drop i)) (p2, q2) ?_ trivial
    simp only [refParts, List.cons_append, List.nil_append]
    rw [hll]
    exact h2
  have HI := Lib.hid hi
  have HL := Lib.hid hl
  have HIL := Lib.hid hil
  have HI0 := Lib.hid hi0
  have k0 := cell_of_block hs1.blk 0 (v := .slice none 0 0) rfl
  have HS := Lib.hid hs1
  have HM0 : Hid (Sep w (W.alloc (.cells #[] 46)).drew (rowRes 46 2 (.slice (some ⟨W.heap.size, 0, none⟩) 0 0) (0) ([]) :: blkRes b (.cells #[.slice none 0 0] 41 (0, 0)) :: rowRes 46 2 (.slice none 0 0) (0) (cellsE L) :: l)) := (HS.out.row_made 46 2).drew
  have HM01 : Hid (Sep w ((W.alloc (.cells #[] 46)).alloc (.cells #[.string key, .int .i64 n] 46)).drew (rowRes 46 2 (.slice (some ⟨W.heap.size, 0, none⟩) 0 0) (0) ([]) :: blkRes (W.heap.size + 1) (.cells #[.string key, .int .i64 n] 46 (0, 0)) :: blkRes b (.cells #[.slice none 0 0] 41 (0, 0)) :: rowRes 46 2 (.slice none 0 0) (0) (cellsE L) :: l)) := by
    have h := ((HS.out.row_made 46 2).alloc #[.string key, .int .i64 n] 46).up1.drew
    rw [show (W.alloc (.cells #[] 46)).heap.size = W.heap.size + 1 from by simp] at h
    exact h
  have HM10 : Hid (Sep w ((W.alloc (.cells #[.string key, .int .i64 n] 46)).alloc (.cells #[] 46)).drew (rowRes 46 2 (.slice (some ⟨W.heap.size + 1, 0, none⟩) 0 0) (0) ([]) :: blkRes W.heap.size (.cells #[.string key, .int .i64 n] 46 (0, 0)) :: blkRes b (.cells #[.slice none 0 0] 41 (0, 0)) :: rowRes 46 2 (.slice none 0 0) (0) (cellsE L) :: l)) := by
    have h := ((HS.out.alloc #[.string key, .int .i64 n] 46).row_made 46 2).drew
    rw [show (W.alloc (.cells #[.string key, .int .i64 n] 46)).heap.size = W.heap.size + 1 from by simp] at h
    exact h
  have ka0 : (W.alloc (.cells #[] 46)).cell? ⟨b, 0, none⟩ = some (.slice none 0 0) := Lib.cell?_alloc_some _ k0
  have ka1 : (W.alloc (.cells #[.string key, .int .i64 n] 46)).cell? ⟨b, 0, none⟩ = some (.slice none 0 0) := Lib.cell?_alloc_some _ k0
  have ka01 : ((W.alloc (.cells #[] 46)).alloc (.cells #[.string key, .int .i64 n] 46)).cell? ⟨b, 0, none⟩ = some (.slice none 0 0) := Lib.cell?_alloc_some _ ka0
  have ka10 : ((W.alloc (.cells #[.string key, .int .i64 n] 46)).alloc (.cells #[] 46)).cell? ⟨b, 0, none⟩ = some (.slice none 0 0) := Lib.cell?_alloc_some _ ka1
  have mixed : Try.prog.follows .mixedOrders = true := by kernel_rfl
  clear hr hs1 hh hll hi hil hi0
  go_enter Try.func12, Try.ntmps12
  go_wp2_with fail
  refine (rat_any HRA.out HL.out key).mono ?_
  rintro r w1 ⟨rfl, rfl⟩
  rw [← HI.out, HI0.out, show ((0 : Nat) : Int) = (0 : Int) from rfl]
  go_upto_region 9 with fail
  go_cut [] (fun wx => Sep w wx (refRes b (putL L (key, n)) :: l))
  case first =>
    have HT1 := Lib.hid (cellsE_one (L.take i))
    have HD1 := Lib.hid (cellsE_one (L.drop i))
    go_wp2_with fail
    refine wp_region_last (S := (fun w' => w'.cell? ⟨b, 0, none⟩ = some (.slice none 0 0))) (by kernel_rfl) 23 _ rfl rfl rfl (by kernel_rfl) [22, 21, 20, 19, 18, 17, 16, 15, 14, 13, 12, 11, 10, 9, 8, 7, 6, 5, 4, 3, 2, 1, 0] (by kernel_rfl) (by kernel_rfl) ?_ (fun hHeld => ?_)
    · (try dsimp only); (first | go_keep | assumption)
    simp only [lull, List.setIfInBounds_toArray, List.set_cons_succ, List.set_cons_zero]
    refine wpAnyH_take (i := 0) (v := ?_) rfl (by kernel_rfl) (by kernel_rfl) (by kernel_rfl) (fun _ _ _ h => h) (Or.inl ⟨by rfl, ?_⟩) (by assumption) ?_
    rotate_left
    · (intro w hSw; (try dsimp only at hSw); go_simp; try with_reducible rfl)
    (try simp only [Act.put, List.setIfInBounds_toArray, List.set_cons_zero, List.set_cons_succ])
    refine wpAnyH_take (i := 2) (v := ?_) rfl (by kernel_rfl) (by kernel_rfl) (by kernel_rfl) (fun _ _ _ h => h) (Or.inl ⟨by rfl, ?_⟩) (by assumption) ?_
    rotate_left
    · (intro w hSw; (try dsimp only at hSw); go_simp; try with_reducible rfl)
    (try simp only [Act.put, List.setIfInBounds_toArray, List.set_cons_zero, List.set_cons_succ])
    refine wpAnyH_take (i := 3) (v := ?_) rfl (by kernel_rfl) (by kernel_rfl) (by kernel_rfl) (fun _ _ _ h => h) (Or.inl ⟨by rfl, ?_⟩) (by assumption) ?_
    rotate_left
    · (intro w hSw; (try dsimp only at hSw); go_simp; try with_reducible rfl)
    (try simp only [Act.put, List.setIfInBounds_toArray, List.set_cons_zero, List.set_cons_succ])
    refine wpAnyH_take (i := 4) (v := ?_) rfl (by kernel_rfl) (by kernel_rfl) (by kernel_rfl) (fun _ _ _ h => h) (Or.inl ⟨by rfl, ?_⟩) (by assumption) ?_
    rotate_left
    · (intro w hSw; (try dsimp only at hSw); go_simp; try with_reducible rfl)
    (try simp only [Act.put, List.setIfInBounds_toArray, List.set_cons_zero, List.set_cons_succ])
    refine wpAnyH_take (i := 5) (v := ?_) rfl (by kernel_rfl) (by kernel_rfl) (by kernel_rfl) (fun _ _ _ h => h) (Or.inl ⟨by rfl, ?_⟩) (by assumption) ?_
    rotate_left
    · (intro w hSw; (try dsimp only at hSw); go_simp; try with_reducible rfl)
    (try simp only [Act.put, List.setIfInBounds_toArray, List.set_cons_zero, List.set_cons_succ])
    refine wpAnyH_take (i := 6) (v := ?_) rfl (by kernel_rfl) (by kernel_rfl) (by kernel_rfl) (fun _ _ _ h => h) (Or.inl ⟨by rfl, ?_⟩) (by assumption) ?_
    rotate_left
    · (intro w hSw; (try dsimp only at hSw); go_simp; try with_reducible rfl)
    (try simp only [Act.put, List.setIfInBounds_toArray, List.set_cons_zero, List.set_cons_succ])
    refine wpAnyH_take (i := 7) (v := ?_) rfl (by kernel_rfl) (by kernel_rfl) (by kernel_rfl) (fun _ _ _ h => h) (Or.inl ⟨by rfl, ?_⟩) (by assumption) ?_
    rotate_left
    · (intro w hSw; (try dsimp only at hSw); go_simp; try with_reducible rfl)
    (try simp only [Act.put, List.setIfInBounds_toArray, List.set_cons_zero, List.set_cons_succ])
    refine wpAnyH_take (i := 9) (v := ?_) rfl (by kernel_rfl) (by kernel_rfl) (by kernel_rfl) (fun _ _ _ h => h) (Or.inl ⟨by rfl, ?_⟩) (by assumption) ?_
    rotate_left
    · (intro w hSw; (try dsimp only at hSw); go_simp; try with_reducible rfl)
    (try simp only [Act.put, List.setIfInBounds_toArray, List.set_cons_zero, List.set_cons_succ])
    refine wpAnyH_take (i := 10) (v := ?_) rfl (by kernel_rfl) (by kernel_rfl) (by kernel_rfl) (fun _ _ _ h => h) (Or.inl ⟨by rfl, ?_⟩) (by assumption) ?_
    rotate_left
    · (intro w hSw; (try dsimp only at hSw); go_simp; try with_reducible rfl)
    (try simp only [Act.put, List.setIfInBounds_toArray, List.set_cons_zero, List.set_cons_succ])
    refine wpAnyH_take (i := 11) (v := ?_) rfl (by kernel_rfl) (by kernel_rfl) (by kernel_rfl) (fun _ _ _ h => h) (Or.inl ⟨by rfl, ?_⟩) (by assumption) ?_
    rotate_left
    · (intro w hSw; (try dsimp only at hSw); go_simp; try with_reducible rfl)
    (try simp only [Act.put, List.setIfInBounds_toArray, List.set_cons_zero, List.set_cons_succ])
    refine wpAnyH_take (i := 14) (v := ?_) rfl (by kernel_rfl) (by kernel_rfl) (by kernel_rfl) (fun _ _ _ h => h) (Or.inl ⟨by rfl, ?_⟩) (by assumption) ?_
    rotate_left
    · (intro w hSw; (try dsimp only at hSw); go_simp; try with_reducible rfl)
    (try simp only [Act.put, List.setIfInBounds_toArray, List.set_cons_zero, List.set_cons_succ])
    refine wpAnyH_take (i := 15) (v := ?_) rfl (by kernel_rfl) (by kernel_rfl) (by kernel_rfl) (fun _ _ _ h => h) (Or.inl ⟨by rfl, ?_⟩) (by assumption) ?_
    rotate_left
    · (intro w hSw; (try dsimp only at hSw); go_simp; try with_reducible rfl)
    (try simp only [Act.put, List.setIfInBounds_toArray, List.set_cons_zero, List.set_cons_succ])
    refine wpAnyH_take (i := 16) (v := ?_) rfl (by kernel_rfl) (by kernel_rfl) (by kernel_rfl) (fun _ _ _ h => h) (Or.inl ⟨by rfl, ?_⟩) (by assumption) ?_
    rotate_left
    · (intro w hSw; (try dsimp only at hSw); go_simp; try with_reducible rfl)
    (try simp only [Act.put, List.setIfInBounds_toArray, List.set_cons_zero, List.set_cons_succ])
    refine wpAnyH_take (i := 17) (v := ?_) rfl (by kernel_rfl) (by kernel_rfl) (by kernel_rfl) (fun _ _ _ h => h) (Or.inl ⟨by rfl, ?_⟩) (by assumption) ?_
    rotate_left
    · (intro w hSw; (try dsimp only at hSw); go_simp; try with_reducible rfl)
    (try simp only [Act.put, List.setIfInBounds_toArray, List.set_cons_zero, List.set_cons_succ])
    refine wpAnyH_take (i := 18) (v := ?_) rfl (by kernel_rfl) (by kernel_rfl) (by kernel_rfl) (fun _ _ _ h => h) (Or.inl ⟨by rfl, ?_⟩) (by assumption) ?_
    rotate_left
    · (intro w hSw; (try dsimp only at hSw); go_simp; try with_reducible rfl)
    (try simp only [Act.put, List.setIfInBounds_toArray, List.set_cons_zero, List.set_cons_succ])
    refine wpAnyH_take (i := 19) (v := ?_) rfl (by kernel_rfl) (by kernel_rfl) (by kernel_rfl) (fun _ _ _ h => h) (Or.inl ⟨by rfl, ?_⟩) (by assumption) ?_
    rotate_left
    · (intro w hSw; (try dsimp only at hSw); go_simp; try with_reducible rfl)
    (try simp only [Act.put, List.setIfInBounds_toArray, List.set_cons_zero, List.set_cons_succ])
    refine wpAnyH_ready (rs := [1, 12]) (by kernel_rfl) (by simp) ?_
    refine AllReadyH.cons rfl (fun K hK => ?_) ?_
    · go_simp
      refine hK.out _ _ ?_ (fun hH1 => ?_)
      · (try dsimp only); (first | go_keep | assumption)
      clear hK K hHeld
      (try simp only [Act.put, List.setIfInBounds_toArray, List.set_cons_zero, List.set_cons_succ])
      refine wpAnyH_ready (rs := [8, 12]) (by kernel_rfl) (by simp) ?_
      refine AllReadyH.cons rfl (fun K hK => ?_) ?_
      · first | (refine step_append_src (w := w) (e := 46) rfl (.tmp 49) (.tmp 55) 39 rfl ie _ 2 24 Try.underlying39 IE.out rfl (by decide) (.slice (some ⟨W.heap.size, 0, none⟩) 0 0) 0 [] rfl none 0 0 (cellsE []) rfl rfl no_cells (cellsE_one []) HM0.out (by unfold maxLen; omega) (by omega) ?_; intro p4 q4 w4 hs4; rw [Nat.zero_add, List.nil_append] at hs4; rw [Nat.zero_add]; have HS4 := Lib.hid hs4; clear hs4; have kn4 := cell_of_block (HS4.out.blkOf (g := b) (o := .cells #[.slice none 0 0] 41 (0, 0)) (by simp)) 0 (v := .slice none 0 0) rfl; have kn5 : (w4.alloc (.cells #[.string key, .int .i64 n] 46)).cell? ⟨b, 0, none⟩ = some (.slice none 0 0) := Lib.cell?_alloc_some _ kn4) | (refine step_append_src (w := w) (e := 46) rfl (.tmp 49) (.tmp 55) 39 rfl ie _ 2 24 Try.underlying39 IE.out rfl (by decide) (.slice (some ⟨W.heap.size, 0, none⟩) 0 0) 0 [] rfl none 0 0 (cellsE []) rfl rfl no_cells (cellsE_one []) HM01.out (by unfold maxLen; omega) (by omega) ?_; intro p4 q4 w4 hs4; rw [Nat.zero_add, List.nil_append] at hs4; rw [Nat.zero_add]; have HS4 := Lib.hid hs4; clear hs4; have kn4 := cell_of_block (HS4.out.blkOf (g := b) (o := .cells #[.slice none 0 0] 41 (0, 0)) (by simp)) 0 (v := .slice none 0 0) rfl) | (refine step_append_src (w := w) (e := 46) rfl (.tmp 49) (.tmp 55) 39 rfl ie _ 2 24 Try.underlying39 IE.out rfl (by decide) (.slice (some ⟨W.heap.size + 1, 0, none⟩) 0 0) 0 [] rfl none 0 0 (cellsE []) rfl rfl no_cells (cellsE_one []) HM10.out (by unfold maxLen; omega) (by omega) ?_; intro p4 q4 w4 hs4; rw [Nat.zero_add, List.nil_append] at hs4; rw [Nat.zero_add]; have HS4 := Lib.hid hs4; clear hs4; have kn4 := cell_of_block (HS4.out.blkOf (g := b) (o := .cells #[.slice none 0 0] 41 (0, 0)) (by simp)) 0 (v := .slice none 0 0) rfl)
        refine hK.out _ _ ?_ (fun hH2 => ?_)
        · (try dsimp only); (first | go_keep | assumption)
        clear hK K hH1
        (try simp only [Act.put, List.setIfInBounds_toArray, List.set_cons_zero, List.set_cons_succ])
        refine wpAnyH_ready (rs := [12]) (by kernel_rfl) (by simp) ?_
        refine AllReadyH.cons rfl (fun K hK => ?_) ?_
        · go_simp
          refine hK.out _ _ ?_ (fun hH3 => ?_)
          · (try dsimp only); (first | go_keep | assumption)
          clear hK K hH2
          (try simp only [Act.put, List.setIfInBounds_toArray, List.set_cons_zero, List.set_cons_succ])
          refine wpAnyH_ready (rs := [13]) (by kernel_rfl) (by simp) ?_
          refine AllReadyH.cons rfl (fun K hK => ?_) ?_
          · first | (refine step_append_sep (w := w) (e := 46) (B := (W.heap.size + 1)) rfl (.tmp 56) (.tmp 60) 39 rfl ie _ 2 24 Try.underlying39 IE.out rfl (by decide) (.slice p4 0 q4) 0 (cellsE []) rfl rfl (HS4.out.up1.blk) rfl (ent_one' (key, n)) HS4.out (by unfold maxLen; omega) (by omega) ?_; intro p5 q5 w5 hs5; have HS5 := Lib.hid hs5; clear hs5; have kn6 := cell_of_block (HS5.out.blkOf (g := b) (o := .cells #[.slice none 0 0] 41 (0, 0)) (by simp)) 0 (v := .slice none 0 0) rfl) | (refine step_append_sep (w := w) (e := 46) (B := W.heap.size) rfl (.tmp 56) (.tmp 60) 39 rfl ie _ 2 24 Try.underlying39 IE.out rfl (by decide) (.slice p4 0 q4) 0 (cellsE []) rfl rfl (HS4.out.up1.blk) rfl (ent_one' (key, n)) HS4.out (by unfold maxLen; omega) (by omega) ?_; intro p5 q5 w5 hs5; have HS5 := Lib.hid hs5; clear hs5; have kn6 := cell_of_block (HS5.out.blkOf (g := b) (o := .cells #[.slice none 0 0] 41 (0, 0)) (by simp)) 0 (v := .slice none 0 0) rfl) | (refine step_append_sep (w := w) (e := 46) (B := w4.heap.size) rfl (.tmp 56) (.tmp 60) 39 rfl ie _ 2 24 Try.underlying39 IE.out rfl (by decide) (.slice p4 0 q4) 0 (cellsE []) rfl rfl (heap_alloc_self) rfl (ent_one' (key, n)) (HS4.out.forget (.cells #[.string key, .int .i64 n] 46)) (by unfold maxLen; omega) (by omega) ?_; intro p5 q5 w5 hs5; have HS5 := Lib.hid hs5; clear hs5; have kn6 := cell_of_block (HS5.out.blkOf (g := b) (o := .cells #[.slice none 0 0] 41 (0, 0)) (by simp)) 0 (v := .slice none 0 0) rfl)
            refine hK.out _ _ ?_ (fun hH4 => ?_)
            · (try dsimp only); (first | go_keep | assumption)
            clear hK K hH3
            (try simp only [Act.put, List.setIfInBounds_toArray, List.set_cons_zero, List.set_cons_succ])
            refine wpAnyH_ready (rs := [20]) (by kernel_rfl) (by simp) ?_
            refine AllReadyH.cons rfl (fun K hK => ?_) ?_
            · (refine step_append_src (w := w) (e := 46) rfl (.tmp 61) (.tmp 67) 39 rfl ie _ 2 24 Try.underlying39 IE.out rfl (by decide) (.slice p5 (0 + 1) q5) (0 + 1) (cellsE [] ++ (#[.string key, .int .i64 n] : Array Value).toList) rfl none 0 0 (cellsE []) rfl rfl no_cells (cellsE_one []) HS5.out (by unfold maxLen; omega) (by omega) ?_; intro p6 q6 w6 hs6; have HS6 := Lib.hid hs6; clear hs6; have kn7 := cell_of_block (HS6.out.blkOf (g := b) (o := .cells #[.slice none 0 0] 41 (0, 0)) (by simp)) 0 (v := .slice none 0 0) rfl; have fn7 := free_of_block (HS6.out.blkOf (g := b) (o := .cells #[.slice none 0 0] 41 (0, 0)) (by simp)) 0)
              refine hK.out _ _ ?_ (fun hH5 => ?_)
              · (try dsimp only); (first | go_keep | assumption)
              clear hK K hH4
              (try simp only [Act.put, List.setIfInBounds_toArray, List.set_cons_zero, List.set_cons_succ])
              refine wpAnyH_take (i := 21) (v := ?_) rfl (by kernel_rfl) (by kernel_rfl) (by kernel_rfl) (fun _ _ _ h => h) (Or.inl ⟨by rfl, ?_⟩) (by assumption) ?_
              rotate_left
              · (intro w hSw; (try dsimp only at hSw); go_simp; try with_reducible rfl)
              (try simp only [Act.put, List.setIfInBounds_toArray, List.set_cons_zero, List.set_cons_succ])
              refine wpAnyH_take (i := 22) (v := ?_) rfl (by kernel_rfl) (by kernel_rfl) (by kernel_rfl) (fun _ _ _ h => h) (Or.inl ⟨by rfl, ?_⟩) (by assumption) ?_
              rotate_left
              · (intro w hSw; (try dsimp only at hSw); go_simp; try with_reducible rfl)
              (try simp only [Act.put, List.setIfInBounds_toArray, List.set_cons_zero, List.set_cons_succ])
              refine wpAnyH_take (i := 23) (v := ?_) rfl (by kernel_rfl) (by kernel_rfl) (by kernel_rfl) (fun _ _ _ h => h) (Or.inl ⟨by rfl, ?_⟩) (by assumption) ?_
              rotate_left
              · (intro w hSw; (try dsimp only at hSw); go_simp; try with_reducible rfl)
              (try simp only [Act.put, List.setIfInBounds_toArray, List.set_cons_zero, List.set_cons_succ])
              refine wpAnyH_done (by kernel_rfl) ?_ _
              refine tail_run rfl rfl ?_
              clear hH5
              go_simp
              go_wp2_with fail
              go_meet
              first | refine HF.out _ _ _ _ _ ?_ ?_ ((HS6.out.up2.tail).up1.store 0 _) | refine HF.out _ _ _ _ _ ?_ ?_ (((HS6.out.up1.tail).up2.tail).up1.store 0 _)
              · have := HIL.out; omega
              · rw [show L = [] from List.eq_nil_of_length_eq_zero HIL.out]; simp [cellsE, encE]
            exact AllReadyH.nil
          exact AllReadyH.nil
        exact AllReadyH.nil
      refine AllReadyH.cons rfl (fun K hK => ?_) ?_
      · go_simp
        refine hK.out _ _ ?_ (fun hH6 => ?_)
        · (try dsimp only); (first | go_keep | assumption)
        clear hK K hH1
        (try simp only [Act.put, List.setIfInBounds_toArray, List.set_cons_zero, List.set_cons_succ])
        refine wpAnyH_ready (rs := [8]) (by kernel_rfl) (by simp) ?_
        refine AllReadyH.cons rfl (fun K hK => ?_) ?_
        · first | (refine step_append_src (w := w) (e := 46) rfl (.tmp 49) (.tmp 55) 39 rfl ie _ 2 24 Try.underlying39 IE.out rfl (by decide) (.slice (some ⟨W.heap.size, 0, none⟩) 0 0) 0 [] rfl none 0 0 (cellsE []) rfl rfl no_cells (cellsE_one []) HM0.out (by unfold maxLen; omega) (by omega) ?_; intro p4 q4 w4 hs4; rw [Nat.zero_add, List.nil_append] at hs4; rw [Nat.zero_add]; have HS4 := Lib.hid hs4; clear hs4; have kn4 := cell_of_block (HS4.out.blkOf (g := b) (o := .cells #[.slice none 0 0] 41 (0, 0)) (by simp)) 0 (v := .slice none 0 0) rfl; have kn5 : (w4.alloc (.cells #[.string key, .int .i64 n] 46)).cell? ⟨b, 0, none⟩ = some (.slice none 0 0) := Lib.cell?_alloc_some _ kn4) | (refine step_append_src (w := w) (e := 46) rfl (.tmp 49) (.tmp 55) 39 rfl ie _ 2 24 Try.underlying39 IE.out rfl (by decide) (.slice (some ⟨W.heap.size, 0, none⟩) 0 0) 0 [] rfl none 0 0 (cellsE []) rfl rfl no_cells (cellsE_one []) HM01.out (by unfold maxLen; omega) (by omega) ?_; intro p4 q4 w4 hs4; rw [Nat.zero_add, List.nil_append] at hs4; rw [Nat.zero_add]; have HS4 := Lib.hid hs4; clear hs4; have kn4 := cell_of_block (HS4.out.blkOf (g := b) (o := .cells #[.slice none 0 0] 41 (0, 0)) (by simp)) 0 (v := .slice none 0 0) rfl) | (refine step_append_src (w := w) (e := 46) rfl (.tmp 49) (.tmp 55) 39 rfl ie _ 2 24 Try.underlying39 IE.out rfl (by decide) (.slice (some ⟨W.heap.size + 1, 0, none⟩) 0 0) 0 [] rfl none 0 0 (cellsE []) rfl rfl no_cells (cellsE_one []) HM10.out (by unfold maxLen; omega) (by omega) ?_; intro p4 q4 w4 hs4; rw [Nat.zero_add, List.nil_append] at hs4; rw [Nat.zero_add]; have HS4 := Lib.hid hs4; clear hs4; have kn4 := cell_of_block (HS4.out.blkOf (g := b) (o := .cells #[.slice none 0 0] 41 (0, 0)) (by simp)) 0 (v := .slice none 0 0) rfl)
          refine hK.out _ _ ?_ (fun hH7 => ?_)
          · (try dsimp only); (first | go_keep | assumption)
          clear hK K hH6
          (try simp only [Act.put, List.setIfInBounds_toArray, List.set_cons_zero, List.set_cons_succ])
          refine wpAnyH_ready (rs := [13]) (by kernel_rfl) (by simp) ?_
          refine AllReadyH.cons rfl (fun K hK => ?_) ?_
          · first | (refine step_append_sep (w := w) (e := 46) (B := (W.heap.size + 1)) rfl (.tmp 56) (.tmp 60) 39 rfl ie _ 2 24 Try.underlying39 IE.out rfl (by decide) (.slice p4 0 q4) 0 (cellsE []) rfl rfl (HS4.out.up1.blk) rfl (ent_one' (key, n)) HS4.out (by unfold maxLen; omega) (by omega) ?_; intro p5 q5 w5 hs5; have HS5 := Lib.hid hs5; clear hs5; have kn6 := cell_of_block (HS5.out.blkOf (g := b) (o := .cells #[.slice none 0 0] 41 (0, 0)) (by simp)) 0 (v := .slice none 0 0) rfl) | (refine step_append_sep (w := w) (e := 46) (B := W.heap.size) rfl (.tmp 56) (.tmp 60) 39 rfl ie _ 2 24 Try.underlying39 IE.out rfl (by decide) (.slice p4 0 q4) 0 (cellsE []) rfl rfl (HS4.out.up1.blk) rfl (ent_one' (key, n)) HS4.out (by unfold maxLen; omega) (by omega) ?_; intro p5 q5 w5 hs5; have HS5 := Lib.hid hs5; clear hs5; have kn6 := cell_of_block (HS5.out.blkOf (g := b) (o := .cells #[.slice none 0 0] 41 (0, 0)) (by simp)) 0 (v := .slice none 0 0) rfl) | (refine step_append_sep (w := w) (e := 46) (B := w4.heap.size) rfl (.tmp 56) (.tmp 60) 39 rfl ie _ 2 24 Try.underlying39 IE.out rfl (by decide) (.slice p4 0 q4) 0 (cellsE []) rfl rfl (heap_alloc_self) rfl (ent_one' (key, n)) (HS4.out.forget (.cells #[.string key, .int .i64 n] 46)) (by unfold maxLen; omega) (by omega) ?_; intro p5 q5 w5 hs5; have HS5 := Lib.hid hs5; clear hs5; have kn6 := cell_of_block (HS5.out.blkOf (g := b) (o := .cells #[.slice none 0 0] 41 (0, 0)) (by simp)) 0 (v := .slice none 0 0) rfl)
            refine hK.out _ _ ?_ (fun hH8 => ?_)
            · (try dsimp only); (first | go_keep | assumption)
            clear hK K hH7
            (try simp only [Act.put, List.setIfInBounds_toArray, List.set_cons_zero, List.set_cons_succ])
            refine wpAnyH_ready (rs := [20]) (by kernel_rfl) (by simp) ?_
            refine AllReadyH.cons rfl (fun K hK => ?_) ?_
            · (refine step_append_src (w := w) (e := 46) rfl (.tmp 61) (.tmp 67) 39 rfl ie _ 2 24 Try.underlying39 IE.out rfl (by decide) (.slice p5 (0 + 1) q5) (0 + 1) (cellsE [] ++ (#[.string key, .int .i64 n] : Array Value).toList) rfl none 0 0 (cellsE []) rfl rfl no_cells (cellsE_one []) HS5.out (by unfold maxLen; omega) (by omega) ?_; intro p6 q6 w6 hs6; have HS6 := Lib.hid hs6; clear hs6; have kn7 := cell_of_block (HS6.out.blkOf (g := b) (o := .cells #[.slice none 0 0] 41 (0, 0)) (by simp)) 0 (v := .slice none 0 0) rfl; have fn7 := free_of_block (HS6.out.blkOf (g := b) (o := .cells #[.slice none 0 0] 41 (0, 0)) (by simp)) 0)
              refine hK.out _ _ ?_ (fun hH9 => ?_)
              · (try dsimp only); (first | go_keep | assumption)
              clear hK K hH8
              (try simp only [Act.put, List.setIfInBounds_toArray, List.set_cons_zero, List.set_cons_succ])
              refine wpAnyH_take (i := 21) (v := ?_) rfl (by kernel_rfl) (by kernel_rfl) (by kernel_rfl) (fun _ _ _ h => h) (Or.inl ⟨by rfl, ?_⟩) (by assumption) ?_
              rotate_left
              · (intro w hSw; (try dsimp only at hSw); go_simp; try with_reducible rfl)
              (try simp only [Act.put, List.setIfInBounds_toArray, List.set_cons_zero, List.set_cons_succ])
              refine wpAnyH_take (i := 22) (v := ?_) rfl (by kernel_rfl) (by kernel_rfl) (by kernel_rfl) (fun _ _ _ h => h) (Or.inl ⟨by rfl, ?_⟩) (by assumption) ?_
              rotate_left
              · (intro w hSw; (try dsimp only at hSw); go_simp; try with_reducible rfl)
              (try simp only [Act.put, List.setIfInBounds_toArray, List.set_cons_zero, List.set_cons_succ])
              refine wpAnyH_take (i := 23) (v := ?_) rfl (by kernel_rfl) (by kernel_rfl) (by kernel_rfl) (fun _ _ _ h => h) (Or.inl ⟨by rfl, ?_⟩) (by assumption) ?_
              rotate_left
              · (intro w hSw; (try dsimp only at hSw); go_simp; try with_reducible rfl)
              (try simp only [Act.put, List.setIfInBounds_toArray, List.set_cons_zero, List.set_cons_succ])
              refine wpAnyH_done (by kernel_rfl) ?_ _
              refine tail_run rfl rfl ?_
              clear hH9
              go_simp
              go_wp2_with fail
              go_meet
              first | refine HF.out _ _ _ _ _ ?_ ?_ ((HS6.out.up2.tail).up1.store 0 _) | refine HF.out _ _ _ _ _ ?_ ?_ (((HS6.out.up1.tail).up2.tail).up1.store 0 _)
              · have := HIL.out; omega
              · rw [show L = [] from List.eq_nil_of_length_eq_zero HIL.out]; simp [cellsE, encE]
            exact AllReadyH.nil
          exact AllReadyH.nil
        exact AllReadyH.nil
      exact AllReadyH.nil
    refine AllReadyH.cons rfl (fun K hK => ?_) ?_
    · go_simp
      refine hK.out _ _ ?_ (fun hH10 => ?_)
      · (try dsimp only); (first | go_keep | assumption)
      clear hK K hHeld
      (try simp only [Act.put, List.setIfInBounds_toArray, List.set_cons_zero, List.set_cons_succ])
      refine wpAnyH_ready (rs := [1]) (by kernel_rfl) (by simp) ?_
      refine AllReadyH.cons rfl (fun K hK => ?_) ?_
      · go_simp
        refine hK.out _ _ ?_ (fun hH11 => ?_)
        · (try dsimp only); (first | go_keep | assumption)
        clear hK K hH10
        (try simp only [Act.put, List.setIfInBounds_toArray, List.set_cons_zero, List.set_cons_succ])
        refine wpAnyH_ready (rs := [8]) (by kernel_rfl) (by simp) ?_
        refine AllReadyH.cons rfl (fun K hK => ?_) ?_
        · first | (refine step_append_src (w := w) (e := 46) rfl (.tmp 49) (.tmp 55) 39 rfl ie _ 2 24 Try.underlying39 IE.out rfl (by decide) (.slice (some ⟨W.heap.size, 0, none⟩) 0 0) 0 [] rfl none 0 0 (cellsE []) rfl rfl no_cells (cellsE_one []) HM0.out (by unfold maxLen; omega) (by omega) ?_; intro p4 q4 w4 hs4; rw [Nat.zero_add, List.nil_append] at hs4; rw [Nat.zero_add]; have HS4 := Lib.hid hs4; clear hs4; have kn4 := cell_of_block (HS4.out.blkOf (g := b) (o := .cells #[.slice none 0 0] 41 (0, 0)) (by simp)) 0 (v := .slice none 0 0) rfl; have kn5 : (w4.alloc (.cells #[.string key, .int .i64 n] 46)).cell? ⟨b, 0, none⟩ = some (.slice none 0 0) := Lib.cell?_alloc_some _ kn4) | (refine step_append_src (w := w) (e := 46) rfl (.tmp 49) (.tmp 55) 39 rfl ie _ 2 24 Try.underlying39 IE.out rfl (by decide) (.slice (some ⟨W.heap.size, 0, none⟩) 0 0) 0 [] rfl none 0 0 (cellsE []) rfl rfl no_cells (cellsE_one []) HM01.out (by unfold maxLen; omega) (by omega) ?_; intro p4 q4 w4 hs4; rw [Nat.zero_add, List.nil_append] at hs4; rw [Nat.zero_add]; have HS4 := Lib.hid hs4; clear hs4; have kn4 := cell_of_block (HS4.out.blkOf (g := b) (o := .cells #[.slice none 0 0] 41 (0, 0)) (by simp)) 0 (v := .slice none 0 0) rfl) | (refine step_append_src (w := w) (e := 46) rfl (.tmp 49) (.tmp 55) 39 rfl ie _ 2 24 Try.underlying39 IE.out rfl (by decide) (.slice (some ⟨W.heap.size + 1, 0, none⟩) 0 0) 0 [] rfl none 0 0 (cellsE []) rfl rfl no_cells (cellsE_one []) HM10.out (by unfold maxLen; omega) (by omega) ?_; intro p4 q4 w4 hs4; rw [Nat.zero_add, List.nil_append] at hs4; rw [Nat.zero_add]; have HS4 := Lib.hid hs4; clear hs4; have kn4 := cell_of_block (HS4.out.blkOf (g := b) (o := .cells #[.slice none 0 0] 41 (0, 0)) (by simp)) 0 (v := .slice none 0 0) rfl)
          refine hK.out _ _ ?_ (fun hH12 => ?_)
          · (try dsimp only); (first | go_keep | assumption)
          clear hK K hH11
          (try simp only [Act.put, List.setIfInBounds_toArray, List.set_cons_zero, List.set_cons_succ])
          refine wpAnyH_ready (rs := [13]) (by kernel_rfl) (by simp) ?_
          refine AllReadyH.cons rfl (fun K hK => ?_) ?_
          · first | (refine step_append_sep (w := w) (e := 46) (B := (W.heap.size + 1)) rfl (.tmp 56) (.tmp 60) 39 rfl ie _ 2 24 Try.underlying39 IE.out rfl (by decide) (.slice p4 0 q4) 0 (cellsE []) rfl rfl (HS4.out.up1.blk) rfl (ent_one' (key, n)) HS4.out (by unfold maxLen; omega) (by omega) ?_; intro p5 q5 w5 hs5; have HS5 := Lib.hid hs5; clear hs5; have kn6 := cell_of_block (HS5.out.blkOf (g := b) (o := .cells #[.slice none 0 0] 41 (0, 0)) (by simp)) 0 (v := .slice none 0 0) rfl) | (refine step_append_sep (w := w) (e := 46) (B := W.heap.size) rfl (.tmp 56) (.tmp 60) 39 rfl ie _ 2 24 Try.underlying39 IE.out rfl (by decide) (.slice p4 0 q4) 0 (cellsE []) rfl rfl (HS4.out.up1.blk) rfl (ent_one' (key, n)) HS4.out (by unfold maxLen; omega) (by omega) ?_; intro p5 q5 w5 hs5; have HS5 := Lib.hid hs5; clear hs5; have kn6 := cell_of_block (HS5.out.blkOf (g := b) (o := .cells #[.slice none 0 0] 41 (0, 0)) (by simp)) 0 (v := .slice none 0 0) rfl) | (refine step_append_sep (w := w) (e := 46) (B := w4.heap.size) rfl (.tmp 56) (.tmp 60) 39 rfl ie _ 2 24 Try.underlying39 IE.out rfl (by decide) (.slice p4 0 q4) 0 (cellsE []) rfl rfl (heap_alloc_self) rfl (ent_one' (key, n)) (HS4.out.forget (.cells #[.string key, .int .i64 n] 46)) (by unfold maxLen; omega) (by omega) ?_; intro p5 q5 w5 hs5; have HS5 := Lib.hid hs5; clear hs5; have kn6 := cell_of_block (HS5.out.blkOf (g := b) (o := .cells #[.slice none 0 0] 41 (0, 0)) (by simp)) 0 (v := .slice none 0 0) rfl)
            refine hK.out _ _ ?_ (fun hH13 => ?_)
            · (try dsimp only); (first | go_keep | assumption)
            clear hK K hH12
            (try simp only [Act.put, List.setIfInBounds_toArray, List.set_cons_zero, List.set_cons_succ])
            refine wpAnyH_ready (rs := [20]) (by kernel_rfl) (by simp) ?_
            refine AllReadyH.cons rfl (fun K hK => ?_) ?_
            · (refine step_append_src (w := w) (e := 46) rfl (.tmp 61) (.tmp 67) 39 rfl ie _ 2 24 Try.underlying39 IE.out rfl (by decide) (.slice p5 (0 + 1) q5) (0 + 1) (cellsE [] ++ (#[.string key, .int .i64 n] : Array Value).toList) rfl none 0 0 (cellsE []) rfl rfl no_cells (cellsE_one []) HS5.out (by unfold maxLen; omega) (by omega) ?_; intro p6 q6 w6 hs6; have HS6 := Lib.hid hs6; clear hs6; have kn7 := cell_of_block (HS6.out.blkOf (g := b) (o := .cells #[.slice none 0 0] 41 (0, 0)) (by simp)) 0 (v := .slice none 0 0) rfl; have fn7 := free_of_block (HS6.out.blkOf (g := b) (o := .cells #[.slice none 0 0] 41 (0, 0)) (by simp)) 0)
              refine hK.out _ _ ?_ (fun hH14 => ?_)
              · (try dsimp only); (first | go_keep | assumption)
              clear hK K hH13
              (try simp only [Act.put, List.setIfInBounds_toArray, List.set_cons_zero, List.set_cons_succ])
              refine wpAnyH_take (i := 21) (v := ?_) rfl (by kernel_rfl) (by kernel_rfl) (by kernel_rfl) (fun _ _ _ h => h) (Or.inl ⟨by rfl, ?_⟩) (by assumption) ?_
              rotate_left
              · (intro w hSw; (try dsimp only at hSw); go_simp; try with_reducible rfl)
              (try simp only [Act.put, List.setIfInBounds_toArray, List.set_cons_zero, List.set_cons_succ])
              refine wpAnyH_take (i := 22) (v := ?_) rfl (by kernel_rfl) (by kernel_rfl) (by kernel_rfl) (fun _ _ _ h => h) (Or.inl ⟨by rfl, ?_⟩) (by assumption) ?_
              rotate_left
              · (intro w hSw; (try dsimp only at hSw); go_simp; try with_reducible rfl)
              (try simp only [Act.put, List.setIfInBounds_toArray, List.set_cons_zero, List.set_cons_succ])
              refine wpAnyH_take (i := 23) (v := ?_) rfl (by kernel_rfl) (by kernel_rfl) (by kernel_rfl) (fun _ _ _ h => h) (Or.inl ⟨by rfl, ?_⟩) (by assumption) ?_
              rotate_left
              · (intro w hSw; (try dsimp only at hSw); go_simp; try with_reducible rfl)
              (try simp only [Act.put, List.setIfInBounds_toArray, List.set_cons_zero, List.set_cons_succ])
              refine wpAnyH_done (by kernel_rfl) ?_ _
              refine tail_run rfl rfl ?_
              clear hH14
              go_simp
              go_wp2_with fail
              go_meet
              first | refine HF.out _ _ _ _ _ ?_ ?_ ((HS6.out.up2.tail).up1.store 0 _) | refine HF.out _ _ _ _ _ ?_ ?_ (((HS6.out.up1.tail).up2.tail).up1.store 0 _)
              · have := HIL.out; omega
              · rw [show L = [] from List.eq_nil_of_length_eq_zero HIL.out]; simp [cellsE, encE]
            exact AllReadyH.nil
          exact AllReadyH.nil
        exact AllReadyH.nil
      exact AllReadyH.nil
    exact AllReadyH.nil
  case rest =>
    obtain ⟨V2, hV2⟩ : ∃ V2 : World, V2 = wc := ⟨_, rfl⟩
    rw [← hV2] at hcut ⊢
    clear hV2
    have HC := Lib.hid hcut; clear hcut
    go_wp2_with fail
    go_ret2
    exact ⟨rfl, HC.out⟩

end Go.Proofs.Ytpaffpiaoanegaa
