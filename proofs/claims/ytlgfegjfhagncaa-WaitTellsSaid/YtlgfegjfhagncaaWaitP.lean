/-
  What is proved here: Reach, Circle, Victim of package wait.
  Condition: there are at most 100000 edges.
-/
import Derived.Test.YtlgfegjfhagncaaWaitL
import Derived.Test.YtlgfegjfhagncaaLast
import Derived.Test.YtlgfegjfhagncaaShelf
set_option linter.unusedSimpArgs false
set_option linter.unusedVariables false
namespace Go.Proofs.Ytlgfegjfhagncaa
open Go.RowKit

/-- The edges l lie at p. -/
def EdgesAt (W : World) (p : Option Addr) (l : Edges) : Prop :=
  ∀ k e, l[k]? = some e → ∃ b o, p = some ⟨b, o, none⟩ ∧ b < W.heap.size ∧ W.cell? ⟨b, o + k * 2, none⟩ = some (.int .i64 e.1) ∧ W.cell? ⟨b, o + k * 2 + 1, none⟩ = some (.int .i64 e.2)
theorem EdgesAt.only {W W' : World} {p : Option Addr} {l : Edges} (h : EdgesAt W p l) (ho : Only [] W W') : EdgesAt W' p l := by
  intro k e he
  obtain ⟨b, o, rfl, hb, c0, c1⟩ := h k e he
  exact ⟨b, o, rfl, Nat.lt_of_lt_of_le hb ho.size, by rw [ho.cell hb (by simp)]; exact c0, by rw [ho.cell hb (by simp)]; exact c1⟩
theorem LState.old {w W : World} {m : Nat} {L : Edges} (h : LState w W m L) : Only [] w W := by obtain ⟨_, _, _, h⟩ := h; exact h.old
def EdgesOk (l : Edges) : Prop := ∀ e ∈ l, (Lit.int .i64 e.1).wf = true ∧ (Lit.int .i64 e.2).wf = true

set_option maxRecDepth 100000 in
set_option maxHeartbeats 4000000 in
theorem preach_any {W : World} {p : Option Addr} {l : Edges} (q : Nat) (hE : EdgesAt W p l) (hok : EdgesOk l) (hl : l.length ≤ 100000) (start : Int) :
    Calls Try.prog 12 #[.slice p l.length q, .int .i64 start] W fun r W' => ∃ xs p q, r = .returned (.slice p (List.length xs) q) ∧ IsReach l start xs ∧ Sep W W' [rowRes 3 1 (.slice p xs.length q) xs.length (intCells xs)] := by
  obtain ⟨ii, II⟩ := info_of Try.infoInt
  have HE := Lib.hid hE
  have HOK := Lib.hid hok
  have hmm := @run_makeMap Try.prog
  obtain ⟨m, hm⟩ : ∃ m, m = W.heap.size := ⟨_, rfl⟩
  have HL0 : Hid (LState W (W.alloc (.map #[] 0)) m (l.take 0)) := LState.new ((Sep.nil W).made (F := [m]) ⟨rfl, by rw [hm]; exact heap_alloc_self⟩ (Only.alloc _ _ _) (fun k hk => by right; simp at hk; omega))
  have HM := Lib.hid hm
  clear hE hok hm
  go_enter Try.func12, Try.ntmps12
  go_wp2_with fail
  rw [← HM.out]
  go_loopw [11] (fun s wr => ∃ i : Nat, i ≤ l.length ∧ s = .int .i64 i ∧ LState W wr m (l.take i)) (fun s _ => l.length - (intOf s).toNat)
  case atStart => exact ⟨0, Nat.zero_le _, rfl, HL0.out⟩
  case round =>
    obtain ⟨i, hi, rfl, hls⟩ := hrel
    by_cases hlt : i < l.length
    · obtain ⟨⟨a, b⟩, he⟩ : ∃ e, l[i]? = some e := ⟨_, List.getElem?_eq_getElem hlt⟩
      have hold : Only [] W wr := by obtain ⟨_, _, _, h⟩ := hls; exact h.old
      obtain ⟨bl, ol, rfl, _, c0, c1⟩ := (HE.out.only hold) i _ he
      simp only at c0 c1
      have hll : (leads (l.take i) a).length ≤ l.length := by
        unfold leads
        rw [List.length_map]
        exact Nat.le_trans (List.length_filter_le _ _) (by rw [List.length_take]; omega)
      have htk : l.take (i + 1) = l.take i ++ [(a, b)] := by rw [List.take_add_one, he]; rfl
      obtain ⟨p0, q0, M, upd, rest, hlk, hup, hrow, hfin⟩ := hls.next a b
      rw [← htk] at hfin
      have HFIN := Lib.hid hfin
      have HUP := Lib.hid hup
      have HLK := Lib.hid hlk
      clear hls hold htk hfin hup hlk he
      generalize l.take i = L at *
      have hs1 := hrow.alloc #[.int .i64 a, .int .i64 b] 33
      obtain ⟨eb, heb⟩ : ∃ eb, eb = wr.heap.size := ⟨_, rfl⟩
      rw [← heb] at hs1
      go_upto_region 5 with fail
      rw [← heb]
      clear c0 c1 heb hrow
      generalize (wr.alloc (.cells #[.int .i64 a, .int .i64 b] 33)) = V at *
      have HS1 := Lib.hid hs1; clear hs1
      have HS5 := Lib.hid ((HS1.out.up1.drew).forget (.cells #[.int .i64 b] 3))
      have d0 := cell_of_block HS1.out.blk 0 (v := .int .i64 a) rfl
      have d1 := cell_of_block HS1.out.blk 1 (v := .int .i64 b) rfl
      have hlk1 := HLK.out V.drew HS1.out.drew.up2.blk
      have hlk2 := HLK.out _ (HS5.out.up2.blk)
      have hlk3 := HLK.out ((V.alloc (.cells #[.int .i64 b] 3)).drew) (HS5.out.up2.blk)
      have hlk4 := HLK.out V HS1.out.up2.blk
      have hlk5 := HLK.out (V.alloc (.cells #[.int .i64 b] 3)) (HS5.out.up2.blk)
      refine wp_region_last (S := (fun w' => w'.cell? ⟨eb, 0, none⟩ = some (.int .i64 a) ∧ w'.cell? ⟨eb, 1, none⟩ = some (.int .i64 b))) (by kernel_rfl) 11 _ rfl rfl rfl (by kernel_rfl) [10, 9, 8, 7, 6, 5, 4, 3, 2, 1, 0] (by kernel_rfl) (by kernel_rfl) ?_ (fun hHeld => ?_)
      · (try dsimp only); (first | go_keep | (refine ⟨?_, ?_⟩ <;> assumption))
      simp only [lull, List.setIfInBounds_toArray, List.set_cons_succ, List.set_cons_zero]
      refine wpAnyH_take (i := 0) (v := ?_) rfl (by kernel_rfl) (by kernel_rfl) (by kernel_rfl) (fun _ _ _ h => h) (Or.inl ⟨by rfl, ?_⟩) (by assumption) ?_
      rotate_left
      · (intro w hSw; (try dsimp only at hSw); go_simp; try with_reducible rfl)
      (try simp only [Act.put, List.setIfInBounds_toArray, List.set_cons_zero, List.set_cons_succ])
      refine wpAnyH_take (i := 1) (v := ?_) rfl (by kernel_rfl) (by kernel_rfl) (by kernel_rfl) (fun _ _ _ h => h) (Or.inl ⟨by rfl, ?_⟩) (by assumption) ?_
      rotate_left
      · (intro w hSw; (try dsimp only at hSw); go_simp; try with_reducible rfl)
      (try simp only [Act.put, List.setIfInBounds_toArray, List.set_cons_zero, List.set_cons_succ])
      refine wpAnyH_take (i := 2) (v := ?_) rfl (by kernel_rfl) (by kernel_rfl) (by kernel_rfl) (fun _ _ _ h => h) (Or.inl ⟨by rfl, ?_⟩) (by assumption) ?_
      rotate_left
      · (intro w hSw; (try dsimp only at hSw); go_simp; try with_reducible rfl)
      (try simp only [Act.put, List.setIfInBounds_toArray, List.set_cons_zero, List.set_cons_succ])
      refine wpAnyH_take (i := 3) (v := ?_) rfl (by kernel_rfl) (by kernel_rfl) (by kernel_rfl) (fun _ _ _ h => h) (Or.inl ⟨by rfl, ?_⟩) (by assumption) ?_
      rotate_left
      · (intro w hSw; (try dsimp only at hSw); go_simp; try with_reducible rfl)
      (try simp only [Act.put, List.setIfInBounds_toArray, List.set_cons_zero, List.set_cons_succ])
      refine wpAnyH_take (i := 4) (v := ?_) rfl (by kernel_rfl) (by kernel_rfl) (by kernel_rfl) (fun _ _ _ h => h) (Or.inl ⟨by rfl, ?_⟩) (by assumption) ?_
      rotate_left
      · (intro w hSw; (try dsimp only at hSw); go_simp; try with_reducible rfl)
      (try simp only [Act.put, List.setIfInBounds_toArray, List.set_cons_zero, List.set_cons_succ])
      refine wpAnyH_take (i := 5) (v := ?_) rfl (by kernel_rfl) (by kernel_rfl) (by kernel_rfl) (fun _ _ _ h => h) (Or.inl ⟨by rfl, ?_⟩) (by assumption) ?_
      rotate_left
      · (intro w hSw; (try dsimp only at hSw); go_simp; try with_reducible rfl)
      (try simp only [Act.put, List.setIfInBounds_toArray, List.set_cons_zero, List.set_cons_succ])
      refine wpAnyH_take (i := 7) (v := ?_) rfl (by kernel_rfl) (by kernel_rfl) (by kernel_rfl) (fun _ _ _ h => h) (Or.inl ⟨by rfl, ?_⟩) (by assumption) ?_
      rotate_left
      · (intro w hSw; (try dsimp only at hSw); go_simp; try with_reducible rfl)
      (try simp only [Act.put, List.setIfInBounds_toArray, List.set_cons_zero, List.set_cons_succ])
      refine wpAnyH_take (i := 8) (v := ?_) rfl (by kernel_rfl) (by kernel_rfl) (by kernel_rfl) (fun _ _ _ h => h) (Or.inl ⟨by rfl, ?_⟩) (by assumption) ?_
      rotate_left
      · (intro w hSw; (try dsimp only at hSw); go_simp; try with_reducible rfl)
      (try simp only [Act.put, List.setIfInBounds_toArray, List.set_cons_zero, List.set_cons_succ])
      refine wpAnyH_ready (rs := [6, 9]) (by kernel_rfl) (by simp) ?_
      refine AllReadyH.cons rfl (fun K hK => ?_) ?_
      · go_simp
        refine hK.out _ _ ?_ (fun hH1 => ?_)
        · (try dsimp only); (first | go_keep | (refine ⟨?_, ?_⟩ <;> assumption))
        clear hK K hHeld
        (try simp only [Act.put, List.setIfInBounds_toArray, List.set_cons_zero, List.set_cons_succ])
        refine wpAnyH_ready (rs := [9]) (by kernel_rfl) (by simp) ?_
        refine AllReadyH.cons rfl (fun K hK => ?_) ?_
        · go_simp
          refine hK.out _ _ ?_ (fun hH2 => ?_)
          · (try dsimp only); (first | go_keep | (refine ⟨?_, ?_⟩ <;> assumption))
          clear hK K hH1
          (try simp only [Act.put, List.setIfInBounds_toArray, List.set_cons_zero, List.set_cons_succ])
          refine wpAnyH_ready (rs := [10]) (by kernel_rfl) (by simp) ?_
          refine AllReadyH.cons rfl (fun K hK => ?_) ?_
          · refine step_append_sep (w := W) (e := 3) (B := V.heap.size) rfl (.tmp 21) (.tmp 24) 28 rfl ii _ 1 8 Try.underlying28 II.out rfl (by decide) (.slice p0 (leads L a).length q0) (leads L a).length (intCells (leads L a)) rfl rfl heap_alloc_self rfl (by simp [Value.oneCell']) HS5.out (by unfold maxLen; omega) (by omega) ?_; intro p6 q6 w6 hs6; have HS6 := Lib.hid hs6; have k0 := cell_of_block hs6.up1.blk 0 (v := .int .i64 a) rfl; have k1 := cell_of_block hs6.up1.blk 1 (v := .int .i64 b) rfl; obtain ⟨w7, hup6, htu⟩ := HUP.out w6 p6 q6 hs6.up2.blk; have HTU := Lib.hid htu; clear hs6 htu
            refine hK.out _ _ ?_ (fun hH3 => ?_)
            · (try dsimp only); (first | go_keep | (refine ⟨?_, ?_⟩ <;> assumption))
            clear hK K hH2
            (try simp only [Act.put, List.setIfInBounds_toArray, List.set_cons_zero, List.set_cons_succ])
            refine wpAnyH_take (i := 11) (v := ?_) rfl (by kernel_rfl) (by kernel_rfl) (by kernel_rfl) (fun _ _ _ h => h) (Or.inl ⟨by rfl, ?_⟩) (by assumption) ?_
            rotate_left
            · (intro w hSw; (try dsimp only at hSw); go_simp; try with_reducible rfl)
            (try simp only [Act.put, List.setIfInBounds_toArray, List.set_cons_zero, List.set_cons_succ])
            refine wpAnyH_done (by kernel_rfl) ?_ _
            refine tail_run rfl rfl ?_
            clear hH3
            have hfn := HFIN.out _ p6 q6 (by have h := (((HS6.out.up2).turned HTU.out).up2.tail).up1; rw [intCells_append]; exact h)
            have HFN := Lib.hid hfn
            clear hfn k0 k1
            go_simp
            go_wp2_with fail
            go_roundw
            case rel => exact ⟨i + 1, by omega, by go_num, HFN.out⟩
            case measure => simp [intOf]; omega
          exact AllReadyH.nil
        exact AllReadyH.nil
      refine AllReadyH.cons rfl (fun K hK => ?_) ?_
      · go_simp
        refine hK.out _ _ ?_ (fun hH4 => ?_)
        · (try dsimp only); (first | go_keep | (refine ⟨?_, ?_⟩ <;> assumption))
        clear hK K hHeld
        (try simp only [Act.put, List.setIfInBounds_toArray, List.set_cons_zero, List.set_cons_succ])
        refine wpAnyH_ready (rs := [6]) (by kernel_rfl) (by simp) ?_
        refine AllReadyH.cons rfl (fun K hK => ?_) ?_
        · go_simp
          refine hK.out _ _ ?_ (fun hH5 => ?_)
          · (try dsimp only); (first | go_keep | (refine ⟨?_, ?_⟩ <;> assumption))
          clear hK K hH4
          (try simp only [Act.put, List.setIfInBounds_toArray, List.set_cons_zero, List.set_cons_succ])
          refine wpAnyH_ready (rs := [10]) (by kernel_rfl) (by simp) ?_
          refine AllReadyH.cons rfl (fun K hK => ?_) ?_
          · refine step_append_sep (w := W) (e := 3) (B := V.heap.size) rfl (.tmp 21) (.tmp 24) 28 rfl ii _ 1 8 Try.underlying28 II.out rfl (by decide) (.slice p0 (leads L a).length q0) (leads L a).length (intCells (leads L a)) rfl rfl heap_alloc_self rfl (by simp [Value.oneCell']) HS5.out (by unfold maxLen; omega) (by omega) ?_; intro p6 q6 w6 hs6; have HS6 := Lib.hid hs6; have k0 := cell_of_block hs6.up1.blk 0 (v := .int .i64 a) rfl; have k1 := cell_of_block hs6.up1.blk 1 (v := .int .i64 b) rfl; obtain ⟨w7, hup6, htu⟩ := HUP.out w6 p6 q6 hs6.up2.blk; have HTU := Lib.hid htu; clear hs6 htu
            refine hK.out _ _ ?_ (fun hH6 => ?_)
            · (try dsimp only); (first | go_keep | (refine ⟨?_, ?_⟩ <;> assumption))
            clear hK K hH5
            (try simp only [Act.put, List.setIfInBounds_toArray, List.set_cons_zero, List.set_cons_succ])
            refine wpAnyH_take (i := 11) (v := ?_) rfl (by kernel_rfl) (by kernel_rfl) (by kernel_rfl) (fun _ _ _ h => h) (Or.inl ⟨by rfl, ?_⟩) (by assumption) ?_
            rotate_left
            · (intro w hSw; (try dsimp only at hSw); go_simp; try with_reducible rfl)
            (try simp only [Act.put, List.setIfInBounds_toArray, List.set_cons_zero, List.set_cons_succ])
            refine wpAnyH_done (by kernel_rfl) ?_ _
            refine tail_run rfl rfl ?_
            clear hH6
            have hfn := HFIN.out _ p6 q6 (by have h := (((HS6.out.up2).turned HTU.out).up2.tail).up1; rw [intCells_append]; exact h)
            have HFN := Lib.hid hfn
            clear hfn k0 k1
            go_simp
            go_wp2_with fail
            go_roundw
            case rel => exact ⟨i + 1, by omega, by go_num, HFN.out⟩
            case measure => simp [intOf]; omega
          exact AllReadyH.nil
        exact AllReadyH.nil
      exact AllReadyH.nil
    · rw [List.take_of_length_le (by omega)] at hls
      have HLS := Lib.hid hls; clear hls
      go_wp2_with fail
      refine (reach_any HLS.out.at (fun e he => (HOK.out e he).2) hl start).mono ?_
      rintro r w1 ⟨xs, pr, qr, rfl, hre, hs1⟩
      have HS1 := Lib.hid hs1
      have HRE := Lib.hid hre
      clear hs1 hre
      go_wp2_with fail
      go_ret
      exact ⟨xs, pr, qr, rfl, HRE.out, (Sep.of_old HLS.out.old).joinNew2 HS1.out⟩


theorem bsearch_any {W : World} {p : Option Addr} {xs : List Int} (q : Nat) (x : Int) (hx : Rising xs) (hl : xs.length ≤ 100000) (h : IntsAt W p xs) :
    Calls Try.prog 23 #[.slice p xs.length q, .int .i64 x] W fun r W' => (∃ c : Int, r = .returned (.tuple #[.int .i64 c, .bool (decide (x ∈ xs))])) ∧ Only [] W W' := by
  by_cases h0 : xs = []
  · subst h0
    refine (Try.slices_BinarySearch_int_empty p q x W).mono ?_
    rintro r w1 ⟨rfl, rfl⟩
    exact ⟨⟨0, by simp⟩, Only.refl _ _⟩
  · have hp : 0 < xs.length := List.length_pos_iff.2 h0
    obtain ⟨b, o, rfl, _, _⟩ := h 0 _ (List.getElem?_eq_getElem hp)
    refine (Try.slices_BinarySearch_int b o xs.length q xs x W (Nat.le_refl _) (by omega) (fun j hj => ?_) ?_).mono ?_
    · obtain ⟨b', o', e, _, hc⟩ := h j _ (List.getElem?_eq_getElem hj)
      simp only [Option.some.injEq, Addr.mk.injEq, and_true] at e
      obtain ⟨rfl, rfl⟩ := e
      rw [hc, List.getD_eq_getElem?_getD, List.getElem?_eq_getElem hj]; rfl
    · rw [List.take_length]
      exact hx.imp (fun h => by omega)
    · rintro r w1 ⟨rfl, n, rfl⟩
      refine ⟨⟨(((xs.take xs.length).countP (· < x) : Nat) : Int), ?_⟩, Only.drewN _ _ _⟩
      have hc : (xs.take xs.length).contains x = decide (x ∈ xs) := by rw [List.take_length, List.contains_eq_mem]
      rw [hc]

open Classical in
/-- Does a node reach itself? -/
noncomputable def cyc (l : Edges) (n : Int) : Bool := decide (Path l n n)
open Classical in
theorem cyc_iff (l : Edges) (n : Int) : cyc l n = true ↔ Path l n n := by unfold cyc; simp

theorem circle_of {l : Edges} {S : List Int} (hS : Rising S) (hk : ∀ y, y ∈ S ↔ leads l y ≠ []) : IsCircle l (S.filter (cyc l)) := by
  refine ⟨hS.filter _, fun y => ?_⟩
  rw [List.mem_filter, cyc_iff]
  constructor
  · exact fun h => h.2
  · intro h
    refine ⟨(hk y).2 ?_, h⟩
    obtain ⟨c, hc⟩ := h.first
    intro h0
    have := (mem_leads l y c).2 hc
    rw [h0] at this
    cases this

set_option maxRecDepth 100000 in
set_option maxHeartbeats 4000000 in
theorem pcircle_any {W : World} {p : Option Addr} {l : Edges} (q : Nat) (hE : EdgesAt W p l) (hok : EdgesOk l) (hl : l.length ≤ 100000) :
    Calls Try.prog 14 #[.slice p l.length q] W fun r W' => ∃ xs p q, r = .returned (.slice p (List.length xs) q) ∧ IsCircle l xs ∧ Sep W W' [rowRes 3 1 (.slice p xs.length q) xs.length (intCells xs)] := by
  obtain ⟨ii, II⟩ := info_of Try.infoInt
  have HE := Lib.hid hE
  have HOK := Lib.hid hok
  have hmm := @run_makeMap Try.prog
  obtain ⟨m, hm⟩ : ∃ m, m = W.heap.size := ⟨_, rfl⟩
  have HL0 : Hid (LState W (W.alloc (.map #[] 0)) m (l.take 0)) := LState.new ((Sep.nil W).made (F := [m]) ⟨rfl, by rw [hm]; exact heap_alloc_self⟩ (Only.alloc _ _ _) (fun k hk => by right; simp at hk; omega))
  have HM := Lib.hid hm
  clear hE hok hm
  go_enter Try.func14, Try.ntmps14
  go_wp2_with fail
  go_step3
  go_wp2_with fail
  rw [← HM.out]
  go_loopw [14] (fun s wr => ∃ i : Nat, i ≤ l.length ∧ s = .int .i64 i ∧ LState W wr m (l.take i)) (fun s _ => l.length - (intOf s).toNat)
  case atStart => exact ⟨0, Nat.zero_le _, rfl, HL0.out⟩
  case round =>
    obtain ⟨i, hi, rfl, hls⟩ := hrel
    by_cases hlt : i < l.length
    · obtain ⟨⟨a, b⟩, he⟩ : ∃ e, l[i]? = some e := ⟨_, List.getElem?_eq_getElem hlt⟩
      have hold : Only [] W wr := by obtain ⟨_, _, _, h⟩ := hls; exact h.old
      obtain ⟨bl, ol, rfl, _, c0, c1⟩ := (HE.out.only hold) i _ he
      simp only at c0 c1
      have hll : (leads (l.take i) a).length ≤ l.length := by
        unfold leads
        rw [List.length_map]
        exact Nat.le_trans (List.length_filter_le _ _) (by rw [List.length_take]; omega)
      have htk : l.take (i + 1) = l.take i ++ [(a, b)] := by rw [List.take_add_one, he]; rfl
      obtain ⟨p0, q0, M, upd, rest, hlk, hup, hrow, hfin⟩ := hls.next a b
      rw [← htk] at hfin
      have HFIN := Lib.hid hfin
      have HUP := Lib.hid hup
      have HLK := Lib.hid hlk
      clear hls hold htk hfin hup hlk he
      generalize l.take i = L at *
      have hs1 := hrow.alloc #[.int .i64 a, .int .i64 b] 33
      obtain ⟨eb, heb⟩ : ∃ eb, eb = wr.heap.size := ⟨_, rfl⟩
      rw [← heb] at hs1
      go_upto_region 5 with fail
      rw [← heb]
      clear c0 c1 heb hrow
      generalize (wr.alloc (.cells #[.int .i64 a, .int .i64 b] 33)) = V at *
      have HS1 := Lib.hid hs1; clear hs1
      have HS5 := Lib.hid ((HS1.out.up1.drew).forget (.cells #[.int .i64 b] 3))
      have d0 := cell_of_block HS1.out.blk 0 (v := .int .i64 a) rfl
      have d1 := cell_of_block HS1.out.blk 1 (v := .int .i64 b) rfl
      have hlk1 := HLK.out V.drew HS1.out.drew.up2.blk
      have hlk2 := HLK.out _ (HS5.out.up2.blk)
      have hlk3 := HLK.out ((V.alloc (.cells #[.int .i64 b] 3)).drew) (HS5.out.up2.blk)
      have hlk4 := HLK.out V HS1.out.up2.blk
      have hlk5 := HLK.out (V.alloc (.cells #[.int .i64 b] 3)) (HS5.out.up2.blk)
      refine wp_region_last (S := (fun w' => w'.cell? ⟨eb, 0, none⟩ = some (.int .i64 a) ∧ w'.cell? ⟨eb, 1, none⟩ = some (.int .i64 b))) (by kernel_rfl) 11 _ rfl rfl rfl (by kernel_rfl) [10, 9, 8, 7, 6, 5, 4, 3, 2, 1, 0] (by kernel_rfl) (by kernel_rfl) ?_ (fun hHeld => ?_)
      · (try dsimp only); (first | go_keep | (refine ⟨?_, ?_⟩ <;> assumption))
      simp only [lull, List.setIfInBounds_toArray, List.set_cons_succ, List.set_cons_zero]
      refine wpAnyH_take (i := 0) (v := ?_) rfl (by kernel_rfl) (by kernel_rfl) (by kernel_rfl) (fun _ _ _ h => h) (Or.inl ⟨by rfl, ?_⟩) (by assumption) ?_
      rotate_left
      · (intro w hSw; (try dsimp only at hSw); go_simp; try with_reducible rfl)
      (try simp only [Act.put, List.setIfInBounds_toArray, List.set_cons_zero, List.set_cons_succ])
      refine wpAnyH_take (i := 1) (v := ?_) rfl (by kernel_rfl) (by kernel_rfl) (by kernel_rfl) (fun _ _ _ h => h) (Or.inl ⟨by rfl, ?_⟩) (by assumption) ?_
      rotate_left
      · (intro w hSw; (try dsimp only at hSw); go_simp; try with_reducible rfl)
      (try simp only [Act.put, List.setIfInBounds_toArray, List.set_cons_zero, List.set_cons_succ])
      refine wpAnyH_take (i := 2) (v := ?_) rfl (by kernel_rfl) (by kernel_rfl) (by kernel_rfl) (fun _ _ _ h => h) (Or.inl ⟨by rfl, ?_⟩) (by assumption) ?_
      rotate_left
      · (intro w hSw; (try dsimp only at hSw); go_simp; try with_reducible rfl)
      (try simp only [Act.put, List.setIfInBounds_toArray, List.set_cons_zero, List.set_cons_succ])
      refine wpAnyH_take (i := 3) (v := ?_) rfl (by kernel_rfl) (by kernel_rfl) (by kernel_rfl) (fun _ _ _ h => h) (Or.inl ⟨by rfl, ?_⟩) (by assumption) ?_
      rotate_left
      · (intro w hSw; (try dsimp only at hSw); go_simp; try with_reducible rfl)
      (try simp only [Act.put, List.setIfInBounds_toArray, List.set_cons_zero, List.set_cons_succ])
      refine wpAnyH_take (i := 4) (v := ?_) rfl (by kernel_rfl) (by kernel_rfl) (by kernel_rfl) (fun _ _ _ h => h) (Or.inl ⟨by rfl, ?_⟩) (by assumption) ?_
      rotate_left
      · (intro w hSw; (try dsimp only at hSw); go_simp; try with_reducible rfl)
      (try simp only [Act.put, List.setIfInBounds_toArray, List.set_cons_zero, List.set_cons_succ])
      refine wpAnyH_take (i := 5) (v := ?_) rfl (by kernel_rfl) (by kernel_rfl) (by kernel_rfl) (fun _ _ _ h => h) (Or.inl ⟨by rfl, ?_⟩) (by assumption) ?_
      rotate_left
      · (intro w hSw; (try dsimp only at hSw); go_simp; try with_reducible rfl)
      (try simp only [Act.put, List.setIfInBounds_toArray, List.set_cons_zero, List.set_cons_succ])
      refine wpAnyH_take (i := 7) (v := ?_) rfl (by kernel_rfl) (by kernel_rfl) (by kernel_rfl) (fun _ _ _ h => h) (Or.inl ⟨by rfl, ?_⟩) (by assumption) ?_
      rotate_left
      · (intro w hSw; (try dsimp only at hSw); go_simp; try with_reducible rfl)
      (try simp only [Act.put, List.setIfInBounds_toArray, List.set_cons_zero, List.set_cons_succ])
      refine wpAnyH_take (i := 8) (v := ?_) rfl (by kernel_rfl) (by kernel_rfl) (by kernel_rfl) (fun _ _ _ h => h) (Or.inl ⟨by rfl, ?_⟩) (by assumption) ?_
      rotate_left
      · (intro w hSw; (try dsimp only at hSw); go_simp; try with_reducible rfl)
      (try simp only [Act.put, List.setIfInBounds_toArray, List.set_cons_zero, List.set_cons_succ])
      refine wpAnyH_ready (rs := [6, 9]) (by kernel_rfl) (by simp) ?_
      refine AllReadyH.cons rfl (fun K hK => ?_) ?_
      · go_simp
        refine hK.out _ _ ?_ (fun hH1 => ?_)
        · (try dsimp only); (first | go_keep | (refine ⟨?_, ?_⟩ <;> assumption))
        clear hK K hHeld
        (try simp only [Act.put, List.setIfInBounds_toArray, List.set_cons_zero, List.set_cons_succ])
        refine wpAnyH_ready (rs := [9]) (by kernel_rfl) (by simp) ?_
        refine AllReadyH.cons rfl (fun K hK => ?_) ?_
        · go_simp
          refine hK.out _ _ ?_ (fun hH2 => ?_)
          · (try dsimp only); (first | go_keep | (refine ⟨?_, ?_⟩ <;> assumption))
          clear hK K hH1
          (try simp only [Act.put, List.setIfInBounds_toArray, List.set_cons_zero, List.set_cons_succ])
          refine wpAnyH_ready (rs := [10]) (by kernel_rfl) (by simp) ?_
          refine AllReadyH.cons rfl (fun K hK => ?_) ?_
          · refine step_append_sep (w := W) (e := 3) (B := V.heap.size) rfl (.tmp 24) (.tmp 27) 28 rfl ii _ 1 8 Try.underlying28 II.out rfl (by decide) (.slice p0 (leads L a).length q0) (leads L a).length (intCells (leads L a)) rfl rfl heap_alloc_self rfl (by simp [Value.oneCell']) HS5.out (by unfold maxLen; omega) (by omega) ?_; intro p6 q6 w6 hs6; have HS6 := Lib.hid hs6; have k0 := cell_of_block hs6.up1.blk 0 (v := .int .i64 a) rfl; have k1 := cell_of_block hs6.up1.blk 1 (v := .int .i64 b) rfl; obtain ⟨w7, hup6, htu⟩ := HUP.out w6 p6 q6 hs6.up2.blk; have HTU := Lib.hid htu; clear hs6 htu
            refine hK.out _ _ ?_ (fun hH3 => ?_)
            · (try dsimp only); (first | go_keep | (refine ⟨?_, ?_⟩ <;> assumption))
            clear hK K hH2
            (try simp only [Act.put, List.setIfInBounds_toArray, List.set_cons_zero, List.set_cons_succ])
            refine wpAnyH_take (i := 11) (v := ?_) rfl (by kernel_rfl) (by kernel_rfl) (by kernel_rfl) (fun _ _ _ h => h) (Or.inl ⟨by rfl, ?_⟩) (by assumption) ?_
            rotate_left
            · (intro w hSw; (try dsimp only at hSw); go_simp; try with_reducible rfl)
            (try simp only [Act.put, List.setIfInBounds_toArray, List.set_cons_zero, List.set_cons_succ])
            refine wpAnyH_done (by kernel_rfl) ?_ _
            refine tail_run rfl rfl ?_
            clear hH3
            have hfn := HFIN.out _ p6 q6 (by have h := (((HS6.out.up2).turned HTU.out).up2.tail).up1; rw [intCells_append]; exact h)
            have HFN := Lib.hid hfn
            clear hfn k0 k1
            go_simp
            go_wp2_with fail
            go_roundw
            case rel => exact ⟨i + 1, by omega, by go_num, HFN.out⟩
            case measure => simp [intOf]; omega
          exact AllReadyH.nil
        exact AllReadyH.nil
      refine AllReadyH.cons rfl (fun K hK => ?_) ?_
      · go_simp
        refine hK.out _ _ ?_ (fun hH4 => ?_)
        · (try dsimp only); (first | go_keep | (refine ⟨?_, ?_⟩ <;> assumption))
        clear hK K hHeld
        (try simp only [Act.put, List.setIfInBounds_toArray, List.set_cons_zero, List.set_cons_succ])
        refine wpAnyH_ready (rs := [6]) (by kernel_rfl) (by simp) ?_
        refine AllReadyH.cons rfl (fun K hK => ?_) ?_
        · go_simp
          refine hK.out _ _ ?_ (fun hH5 => ?_)
          · (try dsimp only); (first | go_keep | (refine ⟨?_, ?_⟩ <;> assumption))
          clear hK K hH4
          (try simp only [Act.put, List.setIfInBounds_toArray, List.set_cons_zero, List.set_cons_succ])
          refine wpAnyH_ready (rs := [10]) (by kernel_rfl) (by simp) ?_
          refine AllReadyH.cons rfl (fun K hK => ?_) ?_
          · refine step_append_sep (w := W) (e := 3) (B := V.heap.size) rfl (.tmp 24) (.tmp 27) 28 rfl ii _ 1 8 Try.underlying28 II.out rfl (by decide) (.slice p0 (leads L a).length q0) (leads L a).length (intCells (leads L a)) rfl rfl heap_alloc_self rfl (by simp [Value.oneCell']) HS5.out (by unfold maxLen; omega) (by omega) ?_; intro p6 q6 w6 hs6; have HS6 := Lib.hid hs6; have k0 := cell_of_block hs6.up1.blk 0 (v := .int .i64 a) rfl; have k1 := cell_of_block hs6.up1.blk 1 (v := .int .i64 b) rfl; obtain ⟨w7, hup6, htu⟩ := HUP.out w6 p6 q6 hs6.up2.blk; have HTU := Lib.hid htu; clear hs6 htu
            refine hK.out _ _ ?_ (fun hH6 => ?_)
            · (try dsimp only); (first | go_keep | (refine ⟨?_, ?_⟩ <;> assumption))
            clear hK K hH5
            (try simp only [Act.put, List.setIfInBounds_toArray, List.set_cons_zero, List.set_cons_succ])
            refine wpAnyH_take (i := 11) (v := ?_) rfl (by kernel_rfl) (by kernel_rfl) (by kernel_rfl) (fun _ _ _ h => h) (Or.inl ⟨by rfl, ?_⟩) (by assumption) ?_
            rotate_left
            · (intro w hSw; (try dsimp only at hSw); go_simp; try with_reducible rfl)
            (try simp only [Act.put, List.setIfInBounds_toArray, List.set_cons_zero, List.set_cons_succ])
            refine wpAnyH_done (by kernel_rfl) ?_ _
            refine tail_run rfl rfl ?_
            clear hH6
            have hfn := HFIN.out _ p6 q6 (by have h := (((HS6.out.up2).turned HTU.out).up2.tail).up1; rw [intCells_append]; exact h)
            have HFN := Lib.hid hfn
            clear hfn k0 k1
            go_simp
            go_wp2_with fail
            go_roundw
            case rel => exact ⟨i + 1, by omega, by go_num, HFN.out⟩
            case measure => simp [intOf]; omega
          exact AllReadyH.nil
        exact AllReadyH.nil
      exact AllReadyH.nil
    · rw [List.take_of_length_le (by omega)] at hls
      have HLS := Lib.hid hls; clear hls
      obtain ⟨W1, rfl⟩ : ∃ W1, W1 = wr := ⟨_, rfl⟩
      obtain ⟨ents, hnd, hno, hsep⟩ := HLS.out
      have hwf : ∀ x ∈ ents.map (ldV l), (Lit.int .i64 x.1).wf = true := by
        intro x hx
        obtain ⟨e, he, rfl⟩ := List.mem_map.1 hx
        have hne := (hno e.1).1 (List.mem_map.2 ⟨e, he, rfl⟩)
        obtain ⟨y, ys, hy⟩ := List.exists_cons_of_ne_nil hne
        have hm2 : (e.1, y) ∈ l := (mem_leads l e.1 y).1 (by rw [hy]; simp)
        exact (HOK.out _ hm2).1
      have hlen : ents.length ≤ 100000 := by
        have hsub : (ents.map Prod.fst) ⊆ l.map Prod.fst := by
          intro a ha
          obtain ⟨y, ys, hy⟩ := List.exists_cons_of_ne_nil ((hno a).1 ha)
          exact List.mem_map.2 ⟨(a, y), (mem_leads l a y).1 (by rw [hy]; simp), rfl⟩
        have := List.Nodup.length_le_of_subset hnd hsub
        simp only [List.length_map] at this
        omega
      have hso := sortedB_any hsep.blk (by rw [ldV_keys]; exact hnd) hwf (by rw [List.length_map]; exact hlen)
      rw [ldV_keys] at hso
      have hsl : (sortI (ents.map Prod.fst)).length = (ents.map (ldV l)).length := by
        have := (List.mergeSort_perm (ents.map Prod.fst) (fun x y => decide (x ≤ y))).length_eq
        unfold sortI
        rw [this, List.length_map, List.length_map]
      rw [← hsl] at hso
      have HSO := Lib.hid hso
      have HRI := Lib.hid (sortI_rising hnd)
      have HMEM : Hid (∀ y, y ∈ sortI (ents.map Prod.fst) ↔ leads l y ≠ []) := fun y => (sortI_mem _ y).trans (hno y)
      have hS5 : (sortI (ents.map Prod.fst)).length ≤ 100000 := by rw [hsl, List.length_map]; exact hlen
      have HLA := Lib.hid HLS.out.at
      have OLD := Lib.hid HLS.out.old
      clear hso hsl hwf hlen hsep hno hnd
      generalize sortI (ents.map Prod.fst) = S at *
      go_wp2_with fail
      go_step3
      go_wp2_with fail
      refine (keysB_any (some m) _).mono ?_
      rintro e w1 ⟨rfl, rfl⟩
      go_wp2_with fail
      refine HSO.out.mono ?_
      rintro e w2 ⟨pk, qk, rfl, hs2⟩
      have HS2 := Lib.hid (hs2.row_nil 3 1)
      clear hs2
      go_wp2_with fail
      go_loopw [6, 34] (fun s6 s34 wx => ∃ (i : Nat) (out : List Int) (po : Option Addr) (qo : Nat), i ≤ S.length ∧ s34 = .int .i64 i ∧ s6 = .slice po out.length qo ∧ out = (S.take i).filter (cyc l) ∧ out.length ≤ i ∧ Sep W1 wx [rowRes 3 1 (.slice po out.length qo) out.length (intCells out), rowRes 3 1 (.slice pk S.length qk) S.length (intCells S)]) (fun _ s34 _ => S.length - (intOf s34).toNat)
      case atStart => exact ⟨0, [], none, 0, Nat.zero_le _, rfl, rfl, by simp, by simp, HS2.out⟩
      case round =>
        obtain ⟨i, out, po, qo, hi, rfl, rfl, hout, hol, hs⟩ := hrel
        have HS := Lib.hid hs
        have HOUT := Lib.hid hout
        clear hs hout HS2
        by_cases hlt : i < S.length
        · obtain ⟨n, hn⟩ : ∃ n, S[i]? = some n := ⟨_, List.getElem?_eq_getElem hlt⟩
          obtain ⟨bk, ok, rfl, _, c0⟩ := HS.out.up1.intsAt i n hn
          have HN : Hid ((S.take (i + 1)).filter (cyc l) = (S.take i).filter (cyc l) ++ (if cyc l n = true then [n] else [])) := by
            show _ = _
            rw [List.take_add_one, hn, List.filter_append]
            congr 1
            by_cases hc : cyc l n = true
            · rw [if_pos hc]; simp [hc]
            · rw [if_neg hc]; simp [hc]
          have HRE := Lib.hid (reach_any (HLA.out.only HS.out.old) (fun e he => (HOK.out e he).2) hl n)
          clear hn
          go_wp2_with fail
          refine HRE.out.mono ?_
          rintro r w3 ⟨xs, px, qx, rfl, hre, hs3⟩
          have HS3 := Lib.hid (HS.out.joinNew2 hs3)
          have hxl : xs.length ≤ 100000 := by
            have hsub : xs ⊆ l.map Prod.snd := by
              intro y hy
              have hp := (hre.2 y).1 hy
              cases hp with
              | one h => exact List.mem_map.2 ⟨_, h, rfl⟩
              | more _ h => exact List.mem_map.2 ⟨_, h, rfl⟩
            have := List.Nodup.length_le_of_subset (hre.1.imp fun h => by omega) hsub
            simp only [List.length_map] at this
            omega
          have hcy : decide (n ∈ xs) = cyc l n := by
            by_cases hc : Path l n n
            · rw [(cyc_iff l n).2 hc, decide_eq_true ((hre.2 n).2 hc)]
            · rw [decide_eq_false (fun h => hc ((hre.2 n).1 h))]
              exact (Bool.eq_false_iff.2 fun h => hc ((cyc_iff l n).1 h)).symm
          have HBS := Lib.hid (bsearch_any qx n hre.1 hxl HS3.out.intsAt)
          rw [hcy] at HBS
          clear hre hs3 hcy c0
          go_wp2_with fail
          refine HBS.out.mono ?_
          rintro r w4 ⟨⟨c, rfl⟩, ho4⟩
          have HS4 := Lib.hid ((HS3.out.tail).only ho4)
          clear ho4 HBS
          by_cases hc : cyc l n = true
          · have HN2 : Hid (out ++ [n] = (S.take (i + 1)).filter (cyc l)) := by show _ = _; rw [HN.out, if_pos hc, ← HOUT.out]
            rw [hc]
            clear hc
            go_wp2_with (at_builtin; go_must (refine wpList_append_sep (w := W1) (e := 3) (cs := #[.int .i64 n]) rfl (.tmp 48) (.tmp 50) 28 rfl ii _ 1 8 Try.underlying28 II.out rfl (by decide) _ out.length (intCells out) rfl rfl (by simp) rfl ?hone HS4.out (by unfold maxLen; omega) (by omega) ?_))
            case hone => simp [Value.oneCell']
            intro p2 q2 w5 hs5
            have HS5 : Hid (Sep W1 w5 [rowRes 3 1 (.slice p2 (out ++ [n]).length q2) (out ++ [n]).length (intCells (out ++ [n])), rowRes 3 1 (.slice (some ⟨bk, ok, none⟩) S.length qk) S.length (intCells S)]) := by
              show Sep _ _ _
              rw [intCells_append, List.length_append]
              exact hs5
            clear hs5
            go_wp2_with fail
            go_roundw
            case rel => exact ⟨i + 1, out ++ [n], p2, q2, by omega, by go_num, by simp, HN2.out, by simp; omega, HS5.out⟩
            case measure => simp [intOf]; omega
          · have hcf : cyc l n = false := by simpa using hc
            have HN2 : Hid (out = (S.take (i + 1)).filter (cyc l)) := by show _ = _; rw [HN.out, if_neg hc, List.append_nil]; exact HOUT.out
            rw [hcf]
            clear hc hcf
            go_wp2_with fail
            go_roundw
            case rel => exact ⟨i + 1, out, po, qo, by omega, by go_num, rfl, HN2.out, by omega, HS4.out⟩
            case measure => simp [intOf]; omega
        · have HFIN : Hid (IsCircle l out) := by
            show IsCircle _ _
            rw [HOUT.out, List.take_of_length_le (by omega)]
            exact circle_of HRI.out HMEM.out
          go_wp2_with fail
          try rw [Exit.noGoto_ret]
          go_ret
          exact ⟨out, po, qo, rfl, HFIN.out, (Sep.of_old OLD.out).joinNew2 ((HS.out.up1).tail)⟩

end Go.Proofs.Ytlgfegjfhagncaa
