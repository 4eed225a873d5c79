/-
  What is proved here: the reference's device ('hedgerowref04.Dev') in memory, and what its functions do, in the words of the plain device DevS.
  Conditions: the device lies in memory as 'refRes' says; at most a million writes are held back.
-/
import Derived.Test.YtaipjialomjhhaaSteps
import Derived.Test.YtaipjialomjhhaaIntsRow
import Derived.Test.YtaipjialomjhhaaSepParts
import Derived.Deep.DeepMust
import Derived.Deep.RegionHeld3
import Derived.Deep.DeepCutAuto
namespace Go.Proofs.Ytaipjialomjhhaa
open Go.RowKit

/-- What is seen is what is safe, with what is held back put over it. -/
def DevS.Coh (d : DevS) : Prop := d.held.foldl DevS.put d.safe = d.now

def texts (l : List ByteArray) : List Value := l.map Value.string

/-- The three slices of the reference's device: where they lie, their capacities. -/
structure RefAt where
  sp : Option Addr
  sq : Nat
  tp : Option Addr
  tq : Nat
  hp : Option Addr
  hq : Nat

def refCells (x : RefAt) (d : DevS) : Array Value :=
  #[.slice x.sp d.now.length x.sq, .slice x.tp d.safe.length x.tq, .slice x.hp d.held.length x.hq, .int .i64 d.left, .int .i64 d.refused, .bool d.armed, .int .i64 d.ops]

def refParts (b : Nat) (d : DevS) (x : RefAt) : List Res :=
  [blkRes b (.cells (refCells x d) 73 (0, 0)), rowRes 9 1 (.slice x.sp d.now.length x.sq) d.now.length (texts d.now), rowRes 9 1 (.slice x.tp d.safe.length x.tq) d.safe.length (texts d.safe),
   rowRes 75 2 (.slice x.hp d.held.length x.hq) d.held.length (heldCells d.held)]

def refRes (b : Nat) (d : DevS) : Res := exRes (refParts b d) (fun _ => d.Wf ∧ d.Coh)

theorem ref_down_cells (b : Nat) (armed : Bool) (left : Int) (w : World) (h3 : w.cell? ⟨b, 3, none⟩ = some (.int .i64 left)) (h5 : w.cell? ⟨b, 5, none⟩ = some (.bool armed)) :
    Calls Try.prog 32 #[.pointer (some ⟨b, 0, none⟩)] w fun e w' => e = .returned (.bool (armed && decide (left ≤ 0))) ∧ w = w' := by
  cases armed
  all_goals
    go_enter Try.func32, Try.ntmps32
    go_wp2
    go_ret
    simp

section
variable {w W : World} {b : Nat} {d : DevS} {l : List Res}

theorem ref_blk {x : RefAt} (h : Sep w W (refParts b d x ++ l)) : W.heap[b]? = some (.cells (refCells x d) 73 (0, 0)) := Sep.blk h

theorem ref_down (h : Sep w W (refRes b d :: l)) :
    Calls Try.prog 32 #[.pointer (some ⟨b, 0, none⟩)] W fun e W' => e = .returned (.bool d.down) ∧ W = W' := by
  obtain ⟨x, hs, _⟩ := h.open
  have hb := ref_blk hs
  have h3 : W.cell? ⟨b, 3, none⟩ = some (.int .i64 d.left) := cell_of_block hb 3 rfl
  have h5 : W.cell? ⟨b, 5, none⟩ = some (.bool d.armed) := cell_of_block hb 5 rfl
  exact ref_down_cells b d.armed d.left W h3 h5

theorem ref_held (h : Sep w W (refRes b d :: l)) :
    Calls Try.prog 30 #[.pointer (some ⟨b, 0, none⟩)] W fun e W' => e = .returned (.int .i64 d.held.length) ∧ W = W' := by
  obtain ⟨x, hs, _⟩ := h.open
  have h2 : W.cell? ⟨b, 2, none⟩ = some (.slice x.hp d.held.length x.hq) := cell_of_block (ref_blk hs) 2 rfl
  clear hs h
  go_enter Try.func30, Try.ntmps30
  go_wp2
  go_ret
  exact ⟨rfl, rfl⟩

theorem ref_sectors (h : Sep w W (refRes b d :: l)) :
    Calls Try.prog 34 #[.pointer (some ⟨b, 0, none⟩)] W fun e W' => e = .returned (.int .i64 d.now.length) ∧ W = W' := by
  obtain ⟨x, hs, _⟩ := h.open
  have h2 : W.cell? ⟨b, 0, none⟩ = some (.slice x.sp d.now.length x.sq) := cell_of_block (ref_blk hs) 0 rfl
  clear hs h
  go_enter Try.func34, Try.ntmps34
  go_wp2
  go_ret
  exact ⟨rfl, rfl⟩

theorem ref_ops (h : Sep w W (refRes b d :: l)) :
    Calls Try.prog 31 #[.pointer (some ⟨b, 0, none⟩)] W fun e W' => e = .returned (.int .i64 d.ops) ∧ W = W' := by
  obtain ⟨x, hs, _⟩ := h.open
  have h2 : W.cell? ⟨b, 6, none⟩ = some (.int .i64 d.ops) := cell_of_block (ref_blk hs) 6 rfl
  clear hs h
  go_enter Try.func31, Try.ntmps31
  go_wp2
  go_ret
  exact ⟨rfl, rfl⟩

theorem ref_ok (x : RefAt) (h : Sep w W (refParts b d x ++ l)) (hl : -9223372036854775807 ≤ d.left ∨ d.armed = false) (hl2 : d.left ≤ 9223372036854775807) :
    Calls Try.prog 40 #[.pointer (some ⟨b, 0, none⟩)] W fun e W' => e = .returned (.tuple #[]) ∧ Sep w W' (refParts b d.did x ++ l) := by
  have hb := ref_blk h
  have h3 : W.cell? ⟨b, 3, none⟩ = some (.int .i64 d.left) := cell_of_block hb 3 rfl
  have h5 : W.cell? ⟨b, 5, none⟩ = some (.bool d.armed) := cell_of_block hb 5 rfl
  have h6 : W.cell? ⟨b, 6, none⟩ = some (.int .i64 d.ops) := cell_of_block hb 6 rfl
  have f3 := free_of_block hb 3
  have f6 := free_of_block hb 6
  have HS := Lib.hid h; clear h hb
  cases ha : d.armed
  · have hend : Sep w (W.setCell ⟨b, 6, none⟩ (.int .i64 (wrap64 (d.ops + 1)))) (refParts b d.did x ++ l) := by
      have := HS.out.store 6 (.int .i64 (wrap64 (d.ops + 1)))
      simpa [refParts, refCells, DevS.did, ha] using this
    have HE := Lib.hid hend; clear hend
    rw [ha] at h5
    clear ha hl
    go_enter Try.func40, Try.ntmps40
    go_wp2
    go_end0
    exact ⟨rfl, HE.out⟩
  · have hend : Sep w ((W.setCell ⟨b, 6, none⟩ (.int .i64 (wrap64 (d.ops + 1)))).setCell ⟨b, 3, none⟩ (.int .i64 (d.left - 1))) (refParts b d.did x ++ l) := by
      have := (HS.out.store 6 (.int .i64 (wrap64 (d.ops + 1)))).store 3 (.int .i64 (d.left - 1))
      simpa [refParts, refCells, DevS.did, ha] using this
    have HE := Lib.hid hend; clear hend
    rw [ha] at h5
    have hl1 : -9223372036854775807 ≤ d.left := by rcases hl with h | h; exact h; rw [ha] at h; cases h
    clear ha hl
    go_enter Try.func40, Try.ntmps40
    go_wp2
    go_end0
    exact ⟨rfl, HE.out⟩

theorem ref_refuse (n : Int) (h : Sep w W (refRes b d :: l)) (hn : n ≤ 9223372036854775807) :
    Calls Try.prog 28 #[.pointer (some ⟨b, 0, none⟩), .int .i64 n] W fun e W' => e = .returned (.tuple #[]) ∧ Sep w W' (refRes b (d.refuse n) :: l) := by
  obtain ⟨x, hs, hwf, hc⟩ := h.open
  have hb := ref_blk hs
  have h4 : W.cell? ⟨b, 4, none⟩ = some (.int .i64 d.refused) := cell_of_block hb 4 rfl
  have f4 := free_of_block hb 4
  have hend : Sep w (W.setCell ⟨b, 4, none⟩ (.int .i64 (max n 0))) (refRes b (d.refuse n) :: l) := by
    refine Sep.close x (by simpa [refParts, refCells, DevS.refuse] using hs.store 4 (.int .i64 (max n 0))) ⟨⟨hwf.same, hwf.few, hwf.now, hwf.safe, hwf.held, hwf.l1, hwf.l2, ?_, ?_, hwf.o1, hwf.o2⟩, hc⟩
    · show 0 ≤ max n 0; omega
    · show max n 0 ≤ _; omega
  clear hs hb h hwf hc
  by_cases h0 : 0 ≤ n
  all_goals
    have HE := Lib.hid hend
    first | rw [show max n 0 = n from by omega] at hend | rw [show max n 0 = 0 from by omega] at hend
    have HE2 := Lib.hid hend; clear hend
    go_enter Try.func28, Try.ntmps28
    go_wp2
    go_end0
    first | exact ⟨rfl, HE.out⟩ | exact ⟨rfl, HE2.out⟩

theorem ref_arm (n : Int) (h : Sep w W (refRes b d :: l)) (hn1 : -9223372036854775808 ≤ n) (hn : n ≤ 9223372036854775807) :
    Calls Try.prog 25 #[.pointer (some ⟨b, 0, none⟩), .int .i64 n] W fun e W' => e = .returned (.tuple #[]) ∧ Sep w W' (refRes b (d.arm n) :: l) := by
  obtain ⟨x, hs, hwf, hc⟩ := h.open
  have hb := ref_blk hs
  have h3 : W.cell? ⟨b, 3, none⟩ = some (.int .i64 d.left) := cell_of_block hb 3 rfl
  have h5 : W.cell? ⟨b, 5, none⟩ = some (.bool d.armed) := cell_of_block hb 5 rfl
  have f3 := free_of_block hb 3
  have f5 := free_of_block hb 5
  have hend : Sep w ((W.setCell ⟨b, 5, none⟩ (.bool (decide (0 ≤ n)))).setCell ⟨b, 3, none⟩ (.int .i64 n)) (refRes b (d.arm n) :: l) := by
    have := (hs.store 5 (.bool (decide (0 ≤ n)))).store 3 (.int .i64 n)
    exact Sep.close x (by simpa [refParts, refCells, DevS.arm] using this) ⟨⟨hwf.same, hwf.few, hwf.now, hwf.safe, hwf.held, hn1, hn, hwf.r1, hwf.r2, hwf.o1, hwf.o2⟩, hc⟩
  have HE := Lib.hid hend; clear hend hs hb h hwf hc
  go_enter Try.func25, Try.ntmps25
  go_wp2
  go_end0
  exact ⟨rfl, HE.out⟩

theorem ref_wf (h : Sep w W (refRes b d :: l)) : d.Wf ∧ d.Coh := by obtain ⟨x, _, hq⟩ := h.open; exact hq

theorem texts_at (l : List ByteArray) (k : Nat) (hk : k < l.length) : (texts l)[k]? = some (.string (l.getD k ByteArray.empty)) := by simp [texts, hk]

set_option maxRecDepth 100000 in
theorem ref_read (at' : Int) (h : Sep w W (refRes b d :: l)) :
    Calls Try.prog 29 #[.pointer (some ⟨b, 0, none⟩), .int .i64 at'] W fun e W' => e = .returned (.tuple #[.string (d.read at').1, .int .i64 (d.read at').2]) ∧ W = W' := by
  obtain ⟨x, hs, hwf, hc⟩ := h.open
  have hb := ref_blk hs
  have h0 : W.cell? ⟨b, 0, none⟩ = some (.slice x.sp d.now.length x.sq) := cell_of_block hb 0 rfl
  have hfew := hwf.few
  have HH := Lib.hid h; clear h
  by_cases hat : 0 ≤ at' ∧ at' < d.now.length
  · cases hdn : d.down
    · have hval : d.read at' = (d.now.getD at'.toNat ByteArray.empty, 0) := by simp only [DevS.read]; rw [if_pos hat, hdn]; rfl
      rw [hval]
      obtain ⟨k, rfl⟩ : ∃ k : Nat, at' = (k : Int) := ⟨at'.toNat, by omega⟩
      have hlt : k < d.now.length := by omega
      have hrow : Sep w W (rowRes 9 1 (.slice x.sp d.now.length x.sq) d.now.length (texts d.now) :: _) := Sep.up1 hs
      obtain ⟨g, hg⟩ := hrow.rowAt (by simp [texts]; omega)
      rw [hg] at hrow h0
      have hc := (hrow.rowCell (texts_at d.now k hlt)).1
      rw [Int.toNat_natCast]
      generalize d.now.getD k ByteArray.empty = t at *
      have HD := Lib.hid hdn; clear hdn hval
      clear hrow hs hb hat hg hwf
      go_enter Try.func29, Try.ntmps29
      go_wp2_with (go_at_call 32; refine (ref_down HH.out).mono ?_; rintro e w' ⟨rfl, rfl⟩; rw [HD.out])
      go_ret2
      exact ⟨rfl, rfl⟩
    · have hval : d.read at' = (ByteArray.empty, 41) := by simp only [DevS.read]; rw [if_pos hat, hdn]; rfl
      rw [hval]
      obtain ⟨hat1, hat2⟩ := hat
      have HD := Lib.hid hdn; clear hdn hval hs hb hwf hc
      go_enter Try.func29, Try.ntmps29
      go_wp2_with (go_at_call 32; refine (ref_down HH.out).mono ?_; rintro e w' ⟨rfl, rfl⟩; rw [HD.out])
      go_ret2
      exact ⟨rfl, rfl⟩
  · have hval : d.read at' = (ByteArray.empty, 40) := by simp only [DevS.read]; rw [if_neg hat]
    rw [hval]
    clear hval hs hb hwf hc
    by_cases hneg : at' < 0
    · clear hat
      go_enter Try.func29, Try.ntmps29
      go_wp2_with fail
      go_ret2
      exact ⟨rfl, rfl⟩
    · have hge : (d.now.length : Int) ≤ at' := by omega
      clear hat
      go_enter Try.func29, Try.ntmps29
      go_wp2_with fail
      go_ret2
      exact ⟨rfl, rfl⟩
end
end Go.Proofs.Ytaipjialomjhhaa
