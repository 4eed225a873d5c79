/-
  What is proved here: what the helpers of the statements of layer 4 compute: 'Block', 'wakes'.
  No condition but that a byte is one.
-/
import Derived.Test.YtaipjialomjhhaaLive
import Derived.Test.YtaipjialomjhhaaBytes
namespace Go.Proofs.Ytaipjialomjhhaa
open Go.RowKit

theorem Try.infoByte : (Try.prog.info? 5).map (fun i => (i.zero, i.size, i.bytes)) = some (some (.int .u8 0), 1, 1) := by kernel_rfl
theorem Try.undBytes : Try.prog.underlying 68 = some (.slice 5) := by kernel_rfl
theorem Try.undByte : Try.prog.underlying 5 = some (.int .u8) := by kernel_rfl
theorem Try.undString : Try.prog.underlying 9 = some .string := by kernel_rfl

/-- A sector of one byte. -/
def blk (x : UInt8) : ByteArray := ⟨(List.replicate 512 x).toArray⟩
theorem blk_size (x : UInt8) : (blk x).size = 512 := by unfold blk; show (List.replicate 512 x).toArray.size = 512; rw [List.size_toArray, List.length_replicate]
theorem blk_zero : blk 0 = DevS.zero := rfl

def BlockAt (n : Nat) (x : UInt8) (w : World) (g : Nat) (k : Nat) (wr : World) : Prop :=
  Only [] w wr ∧ wr.heap[g]? = some (.cells (byteCells (List.replicate k x ++ List.replicate (n - k) 0)).toArray 5 (0, 0))

theorem block_start (n : Nat) (x : UInt8) (w : World) : BlockAt n x w w.heap.size 0 (w.alloc (.cells (Array.replicate n (.int .u8 0)) 5)) := by
  refine ⟨Only.alloc _ _ _, ?_⟩
  rw [heap_alloc_self]
  simp [byteCells]

theorem block_next {n : Nat} {x : UInt8} {w wr : World} {g k : Nat} (hg : w.heap.size ≤ g) (hk : k < n) (h : BlockAt n x w g k wr) : BlockAt n x w g (k + 1) (wr.setCell ⟨g, k, none⟩ (.int .u8 (x.toNat : Int))) := by
  refine ⟨h.1.trans (G := [g]) (Only.cellAt wr g k _) (by intro z hz; right; simp at hz; omega), ?_⟩
  rw [heap_setCell_self h.2, byteCells_set]
  obtain ⟨m, hm⟩ : ∃ m, n - k = m + 1 := ⟨n - k - 1, by omega⟩
  rw [hm, show n - (k + 1) = m from by omega, List.replicate_succ (n := m), List.set_append]
  simp [List.replicate_succ', List.append_assoc]

theorem block_size {n : Nat} {x : UInt8} {w wr : World} {g k : Nat} (h : BlockAt n x w g k wr) (hk : k < n) : ∃ u, wr.cell? ⟨g, k, none⟩ = some u := cell_in h.2 (by simp [byteCells]; omega)

theorem block_lit (n : Nat) (x : UInt8) (w : World) (g c k : Nat) {wr : World} (hk : k ≤ n) (hn : ¬ k < n) (h : BlockAt n x w g k wr) : (convert 68 9 (.slice (some ⟨g, 0, none⟩) n c)).run Try.prog wr = .ok (.string ⟨(List.replicate n x).toArray⟩) wr := by
  obtain rfl : k = n := by omega
  have := run_bytes_text_block (P := Try.prog) wr 68 9 5 g (List.replicate k x ++ List.replicate (k - k) 0) c Try.undBytes Try.undByte Try.undString h.2
  simpa using this

set_option maxRecDepth 100000 in
set_option maxHeartbeats 400000 in
theorem block_any (x : UInt8) (w : World) :
    Calls Try.prog 12 #[.int .u8 (x.toNat : Int)] w fun e w' => e = .returned (.string (blk x)) ∧ Only [] w w' := by
  obtain ⟨ib, IB⟩ := info_of Try.infoByte
  have hmk : ∀ w : World, (Instr.makeSlice 68 (.int .i64 512) (.int .i64 512)).run Try.prog w = .ok (.slice (some ⟨w.heap.size, 0, none⟩) 512 512) (w.alloc (.cells (Array.replicate 512 (.int .u8 0)) 5)) :=
    run_make_all (P := Try.prog) Try.undBytes IB.out rfl 512 (by omega) (by omega)
  go_enter Try.func12, Try.ntmps12
  go_wp2_with fail
  go_loopw [4] (fun i wr => ∃ k : Nat, k ≤ 512 ∧ i = .int .i64 k ∧ BlockAt 512 x w w.heap.size k wr) (fun i _ => 512 - (intOf i).toNat)
  case atStart => exact ⟨0, Nat.zero_le _, rfl, block_start 512 x w⟩
  case round =>
    obtain ⟨k, hk1, rfl, h⟩ := hrel
    clear hmk
    by_cases hlt : k < 512
    · obtain ⟨u, hu⟩ : ∃ u, wr.cell? ⟨w.heap.size, k, none⟩ = some u := block_size h hlt
      have fu := free_of_block h.2 k
      have HR := Lib.hid (block_next (Nat.le_refl _) hlt h)
      clear h
      go_wp2_with fail
      go_roundw
      case rel => exact ⟨k + 1, by omega, by go_num, HR.out⟩
      case measure => simp [intOf]; omega
    · have hc := block_lit 512 x w w.heap.size 512 k hk1 hlt h
      obtain ⟨s, hs⟩ : ∃ s, s = blk x := ⟨_, rfl⟩
      rw [show (⟨(List.replicate 512 x).toArray⟩ : ByteArray) = s from hs.symm] at hc
      have HS := Lib.hid hs; clear hs
      have HO := Lib.hid h.1
      clear h
      go_wp2_with fail
      go_ret
      exact ⟨congrArg (fun t => Ending.returned (Value.string t)) HS.out, HO.out⟩

/- The statement's own waking call: what its steps come to. -/
def wk1 : DevS := ((DevS.new 4).write 1 (blk 7)).2
def wk2 : DevS := wk1.flush.2
def wk3 : DevS := (wk2.write 2 (blk 8)).2
def wk4 : DevS := wk3.crash []

theorem wk1_eq : (DevS.new 4).write 1 (blk 7) = (0, ⟨[DevS.zero, blk 7, DevS.zero, DevS.zero], [DevS.zero, DevS.zero, DevS.zero, DevS.zero], [(1, blk 7)], false, 0, 0, 1⟩) := by
  simp [DevS.write, DevS.new, blk_size, DevS.down, DevS.store, DevS.did, wrap64, List.replicate]
theorem wk2_eq : wk1.flush = (0, ⟨[DevS.zero, blk 7, DevS.zero, DevS.zero], [DevS.zero, blk 7, DevS.zero, DevS.zero], [], false, 0, 0, 2⟩) := by
  rw [wk1, wk1_eq]
  simp [DevS.flush, DevS.down, DevS.did, DevS.put, wrap64]
theorem wk3_eq : wk2.write 2 (blk 8) = (0, ⟨[DevS.zero, blk 7, blk 8, DevS.zero], [DevS.zero, blk 7, DevS.zero, DevS.zero], [(2, blk 8)], false, 0, 0, 3⟩) := by
  rw [wk2, wk2_eq]
  simp [DevS.write, blk_size, DevS.down, DevS.store, DevS.did, wrap64]
theorem wk4_eq : wk4 = ⟨[DevS.zero, blk 7, DevS.zero, DevS.zero], [DevS.zero, blk 7, DevS.zero, DevS.zero], [], false, 0, 0, 3⟩ := by
  rw [wk4, wk3, wk3_eq]
  simp [DevS.crash, DevS.crashed, DevS.back]
theorem wk_read1 : wk4.read 1 = (blk 7, 0) := by rw [wk4_eq]; simp [DevS.read, DevS.down]
theorem wk_read2 : wk4.read 2 = (blk 0, 0) := by rw [wk4_eq, blk_zero]; simp [DevS.read, DevS.down]

set_option maxRecDepth 100000 in
set_option maxHeartbeats 1000000 in
theorem wakes_any (w : World) : Calls Try.prog 9 #[] w fun e w' => e = .returned (.bool true) ∧ Only [] w w' := by
  have hnew := new_walk 4 w (by omega) (by omega)
  go_enter Try.func9, Try.ntmps9
  go_wp2_with fail
  refine hnew.mono ?_
  intro e w1 hm
  obtain ⟨b, rfl, hl⟩ := Live.of_made (Only.refl [] w) hm
  clear hnew hm
  go_wp2_with fail
  refine (block_any 7 _).mono ?_
  rintro e w2 ⟨rfl, ho⟩
  replace hl := hl.only ho
  clear ho
  go_wp2_with fail
  refine (live_write b _ 1 (blk 7) w _ hl (by simp [DevS.new])).mono ?_
  rw [wk1_eq]
  rintro e w3 ⟨rfl, hl3⟩
  clear hl
  go_wp2_with fail
  refine (live_flush b _ w _ hl3 (by simp)).mono ?_
  have e2 := wk2_eq
  rw [wk1, wk1_eq] at e2
  rw [e2]
  rintro e w4 ⟨rfl, hl4⟩
  clear hl3 e2
  go_wp2_with fail
  refine (block_any 8 _).mono ?_
  rintro e w5 ⟨rfl, ho⟩
  replace hl4 := hl4.only ho
  clear ho
  go_wp2_with fail
  refine (live_write b _ 2 (blk 8) w _ hl4 (by simp)).mono ?_
  have e3 := wk3_eq
  rw [wk2, wk2_eq] at e3
  rw [e3]
  rintro e w6 ⟨rfl, hl6⟩
  clear hl4 e3
  go_wp2_with fail
  refine (live_held b _ w _ hl6).mono ?_
  rintro e w6 ⟨rfl, rfl⟩
  go_wp2_with fail
  refine (live_crash_nil b _ w _ hl6 (by simp)).mono ?_
  have e4 := wk4_eq
  rw [wk4, wk3, wk3_eq] at e4
  rw [e4]
  rintro e w7 ⟨rfl, hl7⟩
  clear hl6 e4
  have e5 := wk_read1
  have e6 := wk_read2
  rw [wk4_eq] at e5 e6
  have E6 := Lib.hid e6; clear e6
  go_wp2_with fail
  refine (live_read b _ 1 w _ hl7).mono ?_
  rw [e5]
  rintro e w7 ⟨rfl, rfl⟩
  clear e5
  go_wp2_with fail
  refine (live_read b _ 2 w _ hl7).mono ?_
  rw [E6.out]
  rintro e w7 ⟨rfl, rfl⟩
  go_wp2_with fail
  refine (block_any 7 _).mono ?_
  rintro e w8 ⟨rfl, ho⟩
  have ho8 := hl7.old.trans ho (Within.nil _ _)
  clear ho hl7
  go_wp2_with fail
  refine (block_any 0 _).mono ?_
  rintro e w9 ⟨rfl, ho⟩
  have ho9 := ho8.trans ho (Within.nil _ _)
  clear ho ho8
  go_wp2_with fail
  go_ret
  exact ⟨rfl, ho9⟩

end Go.Proofs.Ytaipjialomjhhaa
