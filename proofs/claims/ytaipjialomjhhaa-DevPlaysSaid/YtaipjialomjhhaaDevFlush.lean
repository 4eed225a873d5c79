/-
  What is proved here: '(*dev.Dev).Flush' comes to what its plain twin 'DevS.flush' says; only the device's own blocks are turned.
  Conditions: the device lies in memory as 'IsDev' says; at most a million writes are held back.
-/
import Derived.Test.YtaipjialomjhhaaDevWrite
namespace Go.Proofs.Ytaipjialomjhhaa
open Go.RowKit

theorem heldCells_at (l : List (Nat × ByteArray)) : ∀ (k : Nat) (h : k < l.length), (heldCells l)[k * 2]? = some (.int .i64 (l[k].1 : Int)) ∧ (heldCells l)[k * 2 + 1]? = some (.string l[k].2) := by
  induction l with
  | nil => intro k h; simp at h
  | cons p l ih =>
    intro k h
    cases k with
    | zero => simp [heldCells]
    | succ k =>
      have := ih k (by simpa using h)
      simp only [heldCells, List.flatMap_cons, List.getElem_cons_succ] at this ⊢
      rw [show (k + 1) * 2 = k * 2 + 2 from by omega, show k * 2 + 2 + 1 = (k * 2 + 1) + 2 from by omega]
      simpa using this

/-- A row's cells, read one by one. -/
theorem ownsRow_cellAt {w : World} {e : TypeId} {size : Nat} {p : Option Addr} {n q : Nat} {xs : List Value} (h : w.ownsRow 0 e size (.slice p n q) n xs) (hn : 0 < n) :
    ∃ g, p = some ⟨g, 0, none⟩ ∧ g < w.heap.size ∧ ∀ j u, xs[j]? = some u → w.cell? ⟨g, j, none⟩ = some u := by
  rcases h.2 with ⟨h1, h2⟩ | ⟨g, cap, cur, hv, _, hg, _⟩
  · omega
  · simp only [Value.slice.injEq] at hv
    obtain ⟨rfl, _, _⟩ := hv
    refine ⟨g, rfl, lt_of_block hg, fun j u hu => ?_⟩
    have := h.cells (g := g) rfl j u hu
    have hadd : (⟨g, 0, none⟩ : Addr).add j = ⟨g, j, none⟩ := by unfold Addr.add; split <;> simp_all
    rw [hadd] at this
    exact this

theorem putAll_length (l : List ByteArray) (h : List (Nat × ByteArray)) : (h.foldl DevS.put l).length = l.length := by
  induction h generalizing l with
  | nil => rfl
  | cons p h ih => simp [ih, DevS.put]

/-- How memory stands in the loop of Flush, after k rounds. -/
def FlushAt (bs : Nat) (d : DevS) (w : World) (k : Nat) (wr : World) : Prop :=
  Only [bs] w wr ∧ wr.heap[bs]? = some (.cells ((((d.held.take k).foldl DevS.put d.safe).map Value.string).toArray) 9 (0, 0))

theorem flush_next {bs : Nat} {d : DevS} {w W : World} {k : Nat} (hlt : k < d.held.length) (ho : Only [bs] w W)
    (hs : W.heap[bs]? = some (.cells ((((d.held.take k).foldl DevS.put d.safe).map Value.string).toArray) 9 (0, 0))) : FlushAt bs d w (k + 1) (W.drew.setCell ⟨bs, d.held[k].1, none⟩ (.string d.held[k].2)) := by
  refine ⟨(ho.trans (Only.drew [bs] W) (Within.refl _ _)).trans (Only.cellAt _ bs _ _) (Within.refl _ _), ?_⟩
  rw [heap_setCell_self (w := W.drew) hs, List.take_succ_eq_append_getElem hlt, List.foldl_append]
  simp [DevS.put, List.map_set]

theorem DevS.down_left {d : DevS} (h : d.down = false) : -9223372036854775807 ≤ d.left ∨ d.armed = false := by
  cases ha : d.armed
  · exact .inr rfl
  · left
    simp [DevS.down, ha] at h
    omega

theorem put_size {n : Nat} (h : List (Nat × ByteArray)) (l : List ByteArray) (hl : ∀ s ∈ l, s.size = n) (hh : ∀ p ∈ h, p.2.size = n) : ∀ s ∈ h.foldl DevS.put l, s.size = n := by
  induction h generalizing l with
  | nil => exact hl
  | cons p h ih =>
    refine ih _ ?_ (fun q hq => hh q (by simp [hq]))
    intro s hs
    rcases List.mem_or_eq_of_mem_set hs with q | q
    · exact hl s q
    · rw [q]; exact hh p (by simp)

theorem DevS.Wf.did {d : DevS} (h : d.Wf) (hd : d.down = false) : d.did.Wf := by
  have hl : -9223372036854775808 ≤ d.did.left ∧ d.did.left ≤ 9223372036854775807 := by
    have h1 := h.l1
    have h2 := h.l2
    have := DevS.down_left hd
    unfold DevS.did
    dsimp only
    cases ha : d.armed
    · simp only [Bool.false_eq_true, if_false]; omega
    · simp only [if_true]
      rw [ha] at this
      simp at this
      omega
  exact ⟨h.same, h.few, h.now, h.safe, h.held, hl.1, hl.2, h.r1, h.r2, by simp only [DevS.did, wrap64]; omega, by simp only [DevS.did, wrap64]; omega⟩

theorem flush_done {w wr w' : World} {b bn bs : Nat} {hv : Value} {d : DevS} (hd : DevAt w b bn bs hv d) (hdn : d.down = false) (ho : Only [bs] w wr)
    (hs : wr.heap[bs]? = some (.cells ((((d.held.take d.held.length).foldl DevS.put d.safe).map Value.string).toArray) 9 (0, 0)))
    (ho3 : Only [b] (wr.setCell ⟨b, 2, none⟩ (.slice none 0 0)) w')
    (hb3 : w'.heap[b]? = some (.cells (devCells bn bs d.now.length (.slice none 0 0) d.armed (if d.armed = true then d.left - 1 else d.left) d.refused (wrap64 (d.ops + 1))) 64 (0, 0))) :
    DevDid b (b :: bn :: bs :: hv.ownBlock.toList) w (.int .i64 0) (DevS.did { d with safe := d.held.foldl DevS.put d.safe, held := [] }) (.returned (.int .i64 0)) w' := by
  have ho4 : Only [b, bs] w w' := by
    refine Only.trans (G := [b]) (Only.trans (G := [b]) (ho.mono (by simp)) (Only.cellAt wr b 2 _) ?_) ho3 ?_
    · intro k hk; left; simp at hk; simp [hk]
    · intro k hk; left; simp at hk; simp [hk]
  rw [List.take_length] at hs
  refine ⟨[b, bn, bs], rfl, ⟨bn, bs, .slice none 0 0, ⟨?_, hb3, ?_, ?_, ?_, hd.n1, hd.n2, hd.n3, fun k hk => by simp [Value.ownBlock] at hk⟩, rfl⟩, ho4.mono ?_, ?_⟩
  · exact DevS.Wf.did (d := { d with safe := d.held.foldl DevS.put d.safe, held := [] }) ⟨by simpa [putAll_length] using hd.wf.same, hd.wf.few, hd.wf.now, put_size _ _ hd.wf.safe (fun p hp => (hd.wf.held p hp).2), by simp, hd.wf.l1, hd.wf.l2, hd.wf.r1, hd.wf.r2, hd.wf.o1, hd.wf.o2⟩ hdn
  · exact ho4.keeps hd.now (by simp [hd.n3]; exact fun e => hd.n1 e.symm)
  · exact ho3.keeps (by rw [heap_setCell_ne (by exact hd.n2.symm)]; exact hs) (by simpa using hd.n2.symm)
  · exact World.ownsRow_nil _ _ _ _
  · intro k hk; simp only [List.mem_cons, List.not_mem_nil, or_false] at hk ⊢; rcases hk with q | q <;> simp [q]
  · intro k hk; left; simp only [List.mem_cons, List.not_mem_nil, or_false] at hk ⊢; rcases hk with q | q | q <;> simp [q]

set_option maxRecDepth 100000 in
set_option maxHeartbeats 1000000 in
theorem flush_walk (b bn bs : Nat) (hv : Value) (d : DevS) (w : World) (hd : DevAt w b bn bs hv d) (hn : 0 < d.held.length) (hdn : d.down = false) (hk : d.held.length ≤ 1000000) :
    Calls Try.prog 13 #[.pointer (some ⟨b, 0, none⟩)] w (DevDid b (b :: bn :: bs :: hv.ownBlock.toList) w (.int .i64 0) (DevS.did { d with safe := d.held.foldl DevS.put d.safe, held := [] })) := by
  obtain ⟨p, q, rfl⟩ := ownsRow_slice hd.held
  obtain ⟨g, rfl, hg, hcell⟩ := ownsRow_cellAt hd.held hn
  have h2 : w.cell? ⟨b, 2, none⟩ = some (.slice (some ⟨g, 0, none⟩) d.held.length q) := cell_of_block hd.self 2 rfl
  have h3 : w.cell? ⟨b, 3, none⟩ = some (.bool d.armed) := cell_of_block hd.self 3 rfl
  have h4 : w.cell? ⟨b, 4, none⟩ = some (.int .i64 d.left) := cell_of_block hd.self 4 rfl
  have HD := Lib.hid hd; clear hd
  have HC := Lib.hid hcell; clear hcell
  have hfew := HD.out.wf.few
  have HDN := Lib.hid hdn; clear hdn
  go_enter Try.func13, Try.ntmps13
  go_wp2_with (go_at_call 17; refine (dev_down_cells _ _ _ _ h3 h4).mono ?_; rintro e w' ⟨rfl, rfl⟩; rw [show (d.armed && decide (d.left ≤ 0)) = false from HDN.out])
  go_loopw [12] (fun i wr => ∃ k : Nat, k ≤ d.held.length ∧ i = .int .i64 k ∧ FlushAt bs d w k wr) (fun i _ => d.held.length - (intOf i).toNat)
  case atStart => exact ⟨0, Nat.zero_le _, rfl, Only.refl _ _, by simpa using HD.out.safe⟩
  case round =>
    obtain ⟨k, hk1, rfl, ho, hs⟩ := hrel
    by_cases hlt : k < d.held.length
    · have hb1 : wr.heap[b]? = some (.cells (devCells bn bs d.now.length (.slice (some ⟨g, 0, none⟩) d.held.length q) d.armed d.left d.refused d.ops) 64 (0, 0)) := ho.keeps HD.out.self (by simpa using HD.out.n2)
      have h1 : wr.cell? ⟨b, 1, none⟩ = some (.slice (some ⟨bs, 0, none⟩) d.now.length d.now.length) := cell_of_block hb1 1 rfl
      have hgs : g ∉ [bs] := by simpa using (HD.out.n4 g rfl).2.2
      have hx := heldCells_at d.held k hlt
      have c0 : wr.cell? ⟨g, k * 2, none⟩ = some (.int .i64 (d.held[k].1 : Int)) := by rw [ho.cell hg hgs]; exact HC.out _ _ hx.1
      have c1 : wr.cell? ⟨g, k * 2 + 1, none⟩ = some (.string d.held[k].2) := by rw [ho.cell hg hgs]; exact HC.out _ _ hx.2
      have hwf := (HD.out.wf.held d.held[k] (List.getElem_mem hlt)).1
      have fs := free_of_block hs d.held[k].1
      obtain ⟨u, hu⟩ : ∃ u, wr.cell? ⟨bs, d.held[k].1, none⟩ = some u := cell_in hs (by simpa [putAll_length, HD.out.wf.same] using hwf)
      have HS := Lib.hid hs; clear hs
      have HB1 := Lib.hid hb1; clear hb1
      clear hx h2 h3 h4
      have hsz := lt_of_block HS.out
      go_wp2_with fail
      have hoW : Only [bs] w (wr.alloc (.cells #[.int .i64 (d.held[k].1 : Int), .string d.held[k].2] 67)) := ho.trans (Only.alloc [bs] wr _) (Within.refl _ _)
      have hsW : (wr.alloc (.cells #[.int .i64 (d.held[k].1 : Int), .string d.held[k].2] 67)).heap[bs]? = some (.cells ((((d.held.take k).foldl DevS.put d.safe).map Value.string).toArray) 9 (0, 0)) := by rw [heap_alloc_lt (lt_of_block HS.out)]; exact HS.out
      have hnW : (wr.alloc (.cells #[.int .i64 (d.held[k].1 : Int), .string d.held[k].2] 67)).heap[wr.heap.size]? = some (.cells #[.int .i64 (d.held[k].1 : Int), .string d.held[k].2] 67 (0, 0)) := heap_alloc_self
      have hbW : (wr.alloc (.cells #[.int .i64 (d.held[k].1 : Int), .string d.held[k].2] 67)).heap[b]? = some (.cells (devCells bn bs d.now.length (.slice (some ⟨g, 0, none⟩) d.held.length q) d.armed d.left d.refused d.ops) 64 (0, 0)) := by rw [heap_alloc_lt (lt_of_block HB1.out)]; exact HB1.out
      generalize (wr.alloc (.cells #[.int .i64 (d.held[k].1 : Int), .string d.held[k].2] 67)) = W at *
      have g1 : W.cell? ⟨b, 1, none⟩ = some (.slice (some ⟨bs, 0, none⟩) d.now.length d.now.length) := cell_of_block hbW 1 rfl
      have g2 : W.cell? ⟨wr.heap.size, 0, none⟩ = some (.int .i64 (d.held[k].1 : Int)) := cell_of_block hnW 0 rfl
      have g3 : W.cell? ⟨wr.heap.size, 1, none⟩ = some (.string d.held[k].2) := cell_of_block hnW 1 rfl
      have gf := free_of_block hsW d.held[k].1
      obtain ⟨u', gu⟩ : ∃ u, W.cell? ⟨bs, d.held[k].1, none⟩ = some u := cell_in hsW (by simpa [putAll_length, HD.out.wf.same] using hwf)
      have HSW := Lib.hid hsW; clear hsW
      have HOW := Lib.hid hoW; clear hoW
      clear hnW hbW h1 c0 c1 fs hu
      go_region
      all_goals
        go_wp2_with fail
        go_roundw
        case rel => exact ⟨k + 1, by omega, by go_num, flush_next hlt HOW.out HSW.out⟩
        case measure => simp [intOf]; omega
    · obtain rfl : k = d.held.length := by omega
      have hb1 : wr.heap[b]? = some (.cells (devCells bn bs d.now.length (.slice (some ⟨g, 0, none⟩) d.held.length q) d.armed d.left d.refused d.ops) 64 (0, 0)) := ho.keeps HD.out.self (by simpa using HD.out.n2)
      have f2 := free_of_block hb1 2
      have h2r : wr.cell? ⟨b, 2, none⟩ = some (.slice (some ⟨g, 0, none⟩) d.held.length q) := cell_of_block hb1 2 rfl
      have hb2 : (wr.setCell ⟨b, 2, none⟩ (.slice none 0 0)).heap[b]? = some (.cells (devCells bn bs d.now.length (.slice none 0 0) d.armed d.left d.refused d.ops) 64 (0, 0)) := by rw [heap_setCell_self hb1]; rfl
      have HS := Lib.hid hs; clear hs
      have HB2 := Lib.hid hb2; clear hb2
      have HO := Lib.hid ho; clear ho
      have hle := DevS.down_left HDN.out
      clear hb1 h2 h3 h4
      go_wp2_with (go_at_call 37; refine (dev_did _ _ _ _ _ _ _ _ _ _ HB2.out hle HD.out.wf.l2).mono ?_; rintro e w' ⟨rfl, ho3, hb3⟩)
      go_ret
      exact flush_done HD.out HDN.out HO.out HS.out ho3 hb3

set_option maxRecDepth 100000 in
set_option maxHeartbeats 1000000 in
/-- Where nothing is held back: the loop has no round. -/
theorem flush_none (b bn bs : Nat) (hv : Value) (d : DevS) (w : World) (hd : DevAt w b bn bs hv d) (hn : d.held.length = 0) (hdn : d.down = false) :
    Calls Try.prog 13 #[.pointer (some ⟨b, 0, none⟩)] w (DevDid b (b :: bn :: bs :: hv.ownBlock.toList) w (.int .i64 0) (DevS.did { d with safe := d.held.foldl DevS.put d.safe, held := [] })) := by
  obtain ⟨p, q, rfl⟩ := ownsRow_slice hd.held
  have h2 : w.cell? ⟨b, 2, none⟩ = some (.slice p 0 q) := by rw [← hn]; exact cell_of_block hd.self 2 rfl
  have h3 : w.cell? ⟨b, 3, none⟩ = some (.bool d.armed) := cell_of_block hd.self 3 rfl
  have h4 : w.cell? ⟨b, 4, none⟩ = some (.int .i64 d.left) := cell_of_block hd.self 4 rfl
  have f2 := free_of_block hd.self 2
  have hle := DevS.down_left hdn
  have hb2 : (w.setCell ⟨b, 2, none⟩ (.slice none 0 0)).heap[b]? = some (.cells (devCells bn bs d.now.length (.slice none 0 0) d.armed d.left d.refused d.ops) 64 (0, 0)) := by rw [heap_setCell_self hd.self]; rfl
  have HB2 := Lib.hid hb2; clear hb2
  have HD := Lib.hid hd; clear hd
  have HDN := Lib.hid hdn; clear hdn
  have HN := Lib.hid hn; clear hn
  go_enter Try.func13, Try.ntmps13
  go_wp2_with (go_at_call 17; refine (dev_down_cells _ _ _ _ h3 h4).mono ?_; rintro e w' ⟨rfl, rfl⟩; rw [show (d.armed && decide (d.left ≤ 0)) = false from HDN.out])
  refine wp_loop_rounds 1 ?_
  rw [rounds_succ]
  go_wp2_with (go_at_call 37; refine (dev_did _ _ _ _ _ _ _ _ _ _ HB2.out hle HD.out.wf.l2).mono ?_; rintro e w' ⟨rfl, ho3, hb3⟩)
  go_ret
  refine flush_done HD.out HDN.out (Only.refl _ _) ?_ ho3 hb3
  rw [List.length_eq_zero_iff.1 HN.out]
  exact HD.out.safe

set_option maxRecDepth 100000 in
theorem flush_down (b bn bs n : Nat) (hv : Value) (armed : Bool) (left refused ops : Int) (w : World)
    (hb : w.heap[b]? = some (.cells (devCells bn bs n hv armed left refused ops) 64 (0, 0))) (hd : (armed && decide (left ≤ 0)) = true) :
    Calls Try.prog 13 #[.pointer (some ⟨b, 0, none⟩)] w fun e w' => e = .returned (.int .i64 41) ∧ w = w' := by
  have h3 : w.cell? ⟨b, 3, none⟩ = some (.bool armed) := cell_of_block hb 3 rfl
  have h4 : w.cell? ⟨b, 4, none⟩ = some (.int .i64 left) := cell_of_block hb 4 rfl
  have HD := Lib.hid hd; clear hd hb
  go_enter Try.func13, Try.ntmps13
  go_wp2_with (go_at_call 17; refine (dev_down_cells _ _ _ _ h3 h4).mono ?_; rintro e w' ⟨rfl, rfl⟩; rw [HD.out])
  go_ret
  exact ⟨rfl, rfl⟩

/-- 'Flush', at any device. -/
theorem dev_flush (b : Nat) (F : List Nat) (d : DevS) (w : World) (h : IsDev w b F d) (hk : d.held.length ≤ 1000000) :
    Calls Try.prog 13 #[.pointer (some ⟨b, 0, none⟩)] w (DevDid b F w (.int .i64 d.flush.1) d.flush.2) := by
  have h' := h
  obtain ⟨bn, bs, hv, hd, rfl⟩ := h
  cases hdn : d.down
  · have hval : d.flush = (0, DevS.did { d with safe := d.held.foldl DevS.put d.safe, held := [] }) := by simp [DevS.flush, hdn]
    rw [hval]
    by_cases hn : d.held.length = 0
    · exact flush_none b bn bs hv d w hd hn hdn
    · exact flush_walk b bn bs hv d w hd (by omega) hdn hk
  · have hval : d.flush = (41, d) := by simp [DevS.flush, hdn]
    rw [hval]
    refine (flush_down b bn bs d.now.length hv d.armed d.left d.refused d.ops w hd.self hdn).mono ?_
    rintro e w' ⟨rfl, rfl⟩
    exact ⟨_, rfl, h', Only.refl _ _, Within.refl _ _⟩

end Go.Proofs.Ytaipjialomjhhaa
