/-
  What is proved here: Done of package bulk: the first time a copy of the tree, then nothing (sync.Once, one goroutine).
  No condition: each lemma names its own.
-/
import Derived.Test.YtpaffpiaoanegaaBulkA
import Derived.Deep.DeepCutAuto
set_option linter.unusedVariables false
set_option linter.unusedSimpArgs false
namespace Go.Proofs.Ytpaffpiaoanegaa
open Go.RowKit

set_option maxRecDepth 100000 in
theorem bload_any (a : Addr) (d : Int) (w : World) (h : w.cell? a = some (.int .u32 d)) :
    Calls Try.prog 39 #[.pointer (some a)] w fun e w' => e = .returned (.bool (d != 0)) ∧ w = w' := by
  have hl := run_call_load (P := Try.prog) Try.func50 (by kernel_rfl) (by kernel_rfl) (by kernel_rfl) .u32 (by kernel_rfl) h
  go_enter Try.func39, Try.ntmps39
  go_wp2
  go_ret
  exact ⟨rfl, rfl⟩

def oCells (t : Nat) (k : ByteArray) (d s : Int) (o : Bool) : Array Value := #[.pointer (some ⟨t, 0, none⟩), .string k, .int .u32 d, .int .i32 s, .int .u32 0, .bool o]
def oBlk (g t : Nat) (k : ByteArray) (d s : Int) (o : Bool) : Res := blkRes g (.cells (oCells t k d s o) 77 (0, 0))
def pbBlk (b g : Nat) : Res := blkRes b (.cells #[.pointer (some ⟨g, 0, none⟩)] 22 (0, 0))
def ptBlk (b : Nat) (q : Option Addr) : Res := blkRes b (.cells #[.pointer q] 25 (0, 0))
def peBlk (b : Nat) (n : Int) : Res := blkRes b (.cells #[.int .i64 n] 26 (0, 0))

set_option maxRecDepth 100000 in
set_option maxHeartbeats 1600000 in
theorem clo_any {w W : World} {l : List Res} {g t fan pb pt pe : Nat} {L : List E} {k : ByteArray} {d s : Int} (hs : Sep w W (oBlk g t k d s false :: treeRes t fan L :: pbBlk pb g :: ptBlk pt none :: peBlk pe 1 :: l)) :
    Calls Try.prog 28 #[.pointer (some ⟨pb, 0, none⟩), .pointer (some ⟨pt, 0, none⟩), .pointer (some ⟨pe, 0, none⟩)] W fun r W' => r = .returned (.tuple #[]) ∧
      ∃ q, Sep w W' (oBlk g t k d s true :: treeRes t fan L :: pbBlk pb g :: ptBlk pt (some ⟨q, 0, none⟩) :: peBlk pe 0 :: treeRes q fan L :: l) := by
  have b0 := cell_of_block (hs.up2.blk) 0 (v := .pointer (some ⟨g, 0, none⟩)) rfl
  have g5 := cell_of_block hs.blk 5 (v := .bool false) rfl
  have z5 := free_of_block hs.blk 5
  have hs1 : Sep w (W.setCell ⟨g, 5, none⟩ (.bool true)) (oBlk g t k d s true :: treeRes t fan L :: pbBlk pb g :: ptBlk pt none :: peBlk pe 1 :: l) := hs.store 5 (.bool true)
  have HS1 := Lib.hid hs1
  clear hs hs1
  go_enter Try.func28, Try.ntmps28
  go_upto_region 1 with fail
  clear b0 g5 z5
  generalize W.setCell ⟨g, 5, none⟩ (.bool true) = V at *
  have b0 := cell_of_block (HS1.out.up2.blk) 0 (v := .pointer (some ⟨g, 0, none⟩)) rfl
  have g0 := cell_of_block HS1.out.blk 0 (v := .pointer (some ⟨t, 0, none⟩)) rfl
  go_wp2_with fail
  refine (tcopy_any HS1.out.up1.tree).mono ?_
  rintro r w2 ⟨q, rfl, hs2⟩
  have h2 := HS1.out.joinNew hs2
  have h3 : Sep w w2 (ptBlk pt none :: oBlk g t k d s true :: treeRes t fan L :: pbBlk pb g :: peBlk pe 1 :: treeRes q fan L :: l) := h2.reorder (by intro x; simp only [List.count_cons]; omega)
  have t0 := cell_of_block h3.blk 0 (v := .pointer none) rfl
  have zt := free_of_block h3.blk 0
  have h4 : Sep w (w2.setCell ⟨pt, 0, none⟩ (.pointer (some ⟨q, 0, none⟩))) (ptBlk pt (some ⟨q, 0, none⟩) :: oBlk g t k d s true :: treeRes t fan L :: pbBlk pb g :: peBlk pe 1 :: treeRes q fan L :: l) := h3.store 0 _
  have h5 : Sep w (w2.setCell ⟨pt, 0, none⟩ (.pointer (some ⟨q, 0, none⟩))) (peBlk pe 1 :: oBlk g t k d s true :: treeRes t fan L :: pbBlk pb g :: ptBlk pt (some ⟨q, 0, none⟩) :: treeRes q fan L :: l) := h4.reorder (by intro x; simp only [List.count_cons]; omega)
  have e0 := cell_of_block h5.blk 0 (v := .int .i64 1) rfl
  have ze := free_of_block h5.blk 0
  have h6 : Sep w ((w2.setCell ⟨pt, 0, none⟩ (.pointer (some ⟨q, 0, none⟩))).setCell ⟨pe, 0, none⟩ (.int .i64 0)) (peBlk pe 0 :: oBlk g t k d s true :: treeRes t fan L :: pbBlk pb g :: ptBlk pt (some ⟨q, 0, none⟩) :: treeRes q fan L :: l) := h5.store 0 _
  have H6 := Lib.hid h6
  have hpe : ¬ pe = pt := by
    intro hc; subst hc
    have a1 := h5.blk
    have a2 := h4.blk
    rw [a2] at a1
    cases a1
  clear h2 h3 h4 h5 h6 hs2 b0 g0
  go_wp2_with fail
  go_end0
  exact ⟨rfl, q, H6.out.reorder (by intro x; simp only [List.count_cons]; omega)⟩

set_option maxRecDepth 100000 in
set_option maxHeartbeats 1600000 in
theorem slow_any {w W : World} {l : List Res} {g t fan pb pt pe : Nat} {L : List E} {k : ByteArray} (hs : Sep w W (oBlk g t k 0 0 false :: treeRes t fan L :: pbBlk pb g :: ptBlk pt none :: peBlk pe 1 :: l)) :
    Calls Try.prog 40 #[.pointer (some ⟨g, 2, none⟩), .func (.func 28) #[] #[.pointer (some ⟨pb, 0, none⟩), .pointer (some ⟨pt, 0, none⟩), .pointer (some ⟨pe, 0, none⟩)]] W fun r W' => r = .returned (.tuple #[]) ∧
      ∃ q, Sep w W' (oBlk g t k 1 0 true :: treeRes t fan L :: pbBlk pb g :: ptBlk pt (some ⟨q, 0, none⟩) :: peBlk pe 0 :: treeRes q fan L :: l) := by
  have g3 := cell_of_block hs.blk 3 (v := .int .i32 0) rfl
  have z3 := free_of_block hs.blk 3
  have hs1 : Sep w (W.setCell ⟨g, 3, none⟩ (.int .i32 1)) (oBlk g t k 0 1 false :: treeRes t fan L :: pbBlk pb g :: ptBlk pt none :: peBlk pe 1 :: l) := hs.store 3 (.int .i32 1)
  have HS1 := Lib.hid hs1
  have g2 := cell_of_block HS1.out.blk 2 (v := .int .u32 0) rfl
  have hnot : ∀ (x : Bool) (w : World), (Op.unary .not (.bool x)).run Try.prog w = .ok (.bool (!x)) w := fun _ _ => rfl
  clear hs hs1
  go_enter_defers Try.func40, Try.ntmps40
  go_wp2_with (go_at_call 51; refine (lock_free ⟨g, 3, none⟩ _ g3 z3).mono ?_; rintro e w' ⟨rfl, rfl⟩)
  clear g3 z3
  generalize W.setCell ⟨g, 3, none⟩ (.int .i32 1) = V at *
  go_wp2_with (go_at_call 39; refine (bload_any ⟨g, 2, none⟩ 0 _ g2).mono ?_; rintro e w' ⟨rfl, rfl⟩)
  go_wp2_with (go_at_call 28; refine (clo_any HS1.out).mono ?_; rintro e w4 ⟨rfl, q, hs4⟩; have HS4 := Lib.hid hs4; clear hs4)
  have f2 := cell_of_block HS4.out.blk 2 (v := .int .u32 0) rfl
  have y2 := free_of_block HS4.out.blk 2
  refine leaves_cons (f := 53) (args := #[.pointer (some ⟨g, 2, none⟩), .bool true]) (by simp) (by simp [go_sem]) ?_
  refine (store_deferred ⟨g, 2, none⟩ (.int .u32 0) .returning _ f2 y2).mono ?_
  rintro e u' w'' ⟨rfl, rfl, rfl⟩
  have h5 : Sep w (w4.drew.setCell ⟨g, 2, none⟩ (.int .u32 1)) (oBlk g t k 1 1 true :: treeRes t fan L :: pbBlk pb g :: ptBlk pt (some ⟨q, 0, none⟩) :: peBlk pe 0 :: treeRes q fan L :: l) := HS4.out.drew.store 2 (.int .u32 1)
  have f3 := cell_of_block h5.blk 3 (v := .int .i32 1) rfl
  have y3 := free_of_block h5.blk 3
  have h6 : Sep w ((w4.drew.setCell ⟨g, 2, none⟩ (.int .u32 1)).setCell ⟨g, 3, none⟩ (.int .i32 0)) (oBlk g t k 1 0 true :: treeRes t fan L :: pbBlk pb g :: ptBlk pt (some ⟨q, 0, none⟩) :: peBlk pe 0 :: treeRes q fan L :: l) := h5.store 3 (.int .i32 0)
  refine leaves_cons (f := 52) (args := #[.pointer (some ⟨g, 3, none⟩)]) (by simp [settle]) (by simp [go_sem]) ?_
  refine (unlock_deferred ⟨g, 3, none⟩ _ _ f3 y3).mono ?_
  rintro e u' w'' ⟨rfl, rfl, rfl⟩
  simp [Leaves, settle, results, Try.results40]
  exact ⟨q, h6⟩

def cloV (pb pt pe : Nat) : Value := .func (.func 28) #[] #[.pointer (some ⟨pb, 0, none⟩), .pointer (some ⟨pt, 0, none⟩), .pointer (some ⟨pe, 0, none⟩)]

set_option maxRecDepth 100000 in
theorem do_first {w W : World} {l : List Res} {g t fan pb pt pe : Nat} {L : List E} {k : ByteArray} (hs : Sep w W (oBlk g t k 0 0 false :: treeRes t fan L :: pbBlk pb g :: ptBlk pt none :: peBlk pe 1 :: l)) :
    Calls Try.prog 27 #[.pointer (some ⟨g, 2, none⟩), .func (.func 28) #[] #[.pointer (some ⟨pb, 0, none⟩), .pointer (some ⟨pt, 0, none⟩), .pointer (some ⟨pe, 0, none⟩)]] W fun r W' => r = .returned (.tuple #[]) ∧
      ∃ q, Sep w W' (oBlk g t k 1 0 true :: treeRes t fan L :: pbBlk pb g :: ptBlk pt (some ⟨q, 0, none⟩) :: peBlk pe 0 :: treeRes q fan L :: l) := by
  have g2 := cell_of_block hs.blk 2 (v := .int .u32 0) rfl
  have hnot : ∀ (x : Bool) (w : World), (Op.unary .not (.bool x)).run Try.prog w = .ok (.bool (!x)) w := fun _ _ => rfl
  have HS := Lib.hid hs; clear hs
  go_enter Try.func27, Try.ntmps27
  go_wp2_with (first | (go_at_call 39; refine (bload_any ⟨g, 2, none⟩ 0 _ g2).mono ?_; rintro e w' ⟨rfl, rfl⟩) | (go_at_call 40; refine (slow_any HS.out).mono ?_; rintro e w' ⟨rfl, q, hq⟩; have HQ := Lib.hid hq; clear hq))
  go_end0
  exact ⟨rfl, q, HQ.out⟩

set_option maxRecDepth 100000 in
theorem do_done {W : World} {g : Nat} (v : Value) (g2 : W.cell? ⟨g, 2, none⟩ = some (.int .u32 1)) :
    Calls Try.prog 27 #[.pointer (some ⟨g, 2, none⟩), v] W fun r W' => r = .returned (.tuple #[]) ∧ W = W' := by
  have hnot : ∀ (x : Bool) (w : World), (Op.unary .not (.bool x)).run Try.prog w = .ok (.bool (!x)) w := fun _ _ => rfl
  go_enter Try.func27, Try.ntmps27
  go_wp2_with (go_at_call 39; refine (bload_any ⟨g, 2, none⟩ 1 _ g2).mono ?_; rintro e w' ⟨rfl, rfl⟩)
  go_end0
  exact ⟨rfl, rfl⟩

theorem sz2 (w : World) (a : Obj) : (w.alloc a).heap.size = w.heap.size + 1 := by simp

set_option maxRecDepth 100000 in
set_option maxHeartbeats 1600000 in
theorem bdone_first {w W : World} {l : List Res} {g fan : Nat} {L : List E} (hs : Sep w W (bulkRes g fan L 0 false :: l)) :
    Calls Try.prog 8 #[.pointer (some ⟨g, 0, none⟩)] W fun r W' => ∃ q, r = .returned (.tuple #[.pointer (some ⟨q, 0, none⟩), .int .i64 0]) ∧ Sep w W' (treeRes q fan L :: bulkRes g fan L 1 true :: l) := by
  have hmf : ∀ (fn : Fn) (first cap : Array Value) (w : World), (Instr.makeFunc fn first cap).run Try.prog w = .ok (.func fn first cap) w := fun _ _ _ _ => rfl
  have mixed : Try.prog.follows .mixedOrders = true := by kernel_rfl
  obtain ⟨t, hs1, _⟩ := hs.open
  have h2 := ((hs1.alloc #[.pointer (some ⟨g, 0, none⟩)] 22).alloc #[.pointer none] 25).alloc #[.int .i64 1] 26
  rw [sz2, sz2] at h2
  have h3 : Sep w _ (oBlk g t (lastS L) 0 0 false :: treeRes t fan L :: pbBlk W.heap.size g :: ptBlk (W.heap.size + 1) none :: peBlk (W.heap.size + 1 + 1) 1 :: l) := h2.reorder (by intro x; simp only [List.count_cons, oBlk, pbBlk, ptBlk, peBlk, bulkParts, List.cons_append, List.nil_append, oCells, bulkCells]; omega)
  have HS := Lib.hid h3
  clear hs hs1 h2 h3
  go_enter Try.func8, Try.ntmps8
  go_wp2_with (go_at_call 27; refine (do_first HS.out).mono ?_; rintro e w4 ⟨rfl, q, hq⟩; have HQ := Lib.hid hq; clear hq)
  have a0 := cell_of_block HQ.out.up3.blk 0 (v := .pointer (some ⟨q, 0, none⟩)) rfl
  have a1 := cell_of_block (HQ.out.blkOf (g := W.heap.size + 1 + 1) (o := .cells #[.int .i64 0] 26 (0, 0)) (by simp [peBlk])) 0 (v := .int .i64 0) rfl
  go_quiet (fail)
  go_wp2_with fail
  go_ret2
  refine ⟨q, rfl, ?_⟩
  have h5 := HQ.out.only (Only.drewN [] w4 nq)
  have h6 : Sep w _ (oBlk g t (lastS L) 1 0 true :: treeRes t fan L :: treeRes q fan L :: l) := (h5.reorder (l' := pbBlk W.heap.size g :: ptBlk (W.heap.size + 1) (some ⟨q, 0, none⟩) :: peBlk (W.heap.size + 1 + 1) 0 :: oBlk g t (lastS L) 1 0 true :: treeRes t fan L :: treeRes q fan L :: l) (by intro x; simp only [List.count_cons]; omega)).tail.tail.tail
  have h7 : Sep w _ (bulkRes g fan L 1 true :: treeRes q fan L :: l) := Sep.close (ps := bulkParts g fan L 1 true) t h6 trivial
  exact h7.up1

set_option maxRecDepth 100000 in
set_option maxHeartbeats 1600000 in
theorem bdone_again {w W : World} {l : List Res} {g fan : Nat} {L : List E} (hs : Sep w W (bulkRes g fan L 1 true :: l)) :
    Calls Try.prog 8 #[.pointer (some ⟨g, 0, none⟩)] W fun r W' => r = .returned (.tuple #[.pointer none, .int .i64 1]) ∧ Only [] W W' := by
  have hmf : ∀ (fn : Fn) (first cap : Array Value) (w : World), (Instr.makeFunc fn first cap).run Try.prog w = .ok (.func fn first cap) w := fun _ _ _ _ => rfl
  have mixed : Try.prog.follows .mixedOrders = true := by kernel_rfl
  obtain ⟨t, hs1, _⟩ := hs.open
  have h2 := ((hs1.alloc #[.pointer (some ⟨g, 0, none⟩)] 22).alloc #[.pointer none] 25).alloc #[.int .i64 1] 26
  rw [sz2, sz2] at h2
  have ho : Only [] W (((W.alloc (.cells #[.pointer (some ⟨g, 0, none⟩)] 22)).alloc (.cells #[.pointer none] 25)).alloc (.cells #[.int .i64 1] 26)) := ((Only.alloc [] W _).trans (Only.alloc [] _ _) (Within.nil _ _)).trans (Only.alloc [] _ _) (Within.nil _ _)
  have g2 := cell_of_block (h2.blkOf (g := g) (o := .cells (bulkCells t (lastS L) 1 true) 77 (0, 0)) (by simp [bulkParts])) 2 (v := .int .u32 1) rfl
  have HO := Lib.hid ho
  clear hs hs1 h2 ho
  go_enter Try.func8, Try.ntmps8
  go_wp2_with (go_at_call 27; refine (do_done _ g2).mono ?_; rintro e w4 ⟨rfl, rfl⟩)
  go_quiet (fail)
  go_wp2_with fail
  go_ret2
  exact ⟨rfl, HO.out.trans (Only.drewN [] _ _) (Within.nil _ _)⟩

end Go.Proofs.Ytpaffpiaoanegaa
