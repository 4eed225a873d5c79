/-
  What is proved here: what the device's functions do in memory ('hedgerow/dev'): each comes to what its plain twin (DevM) says, and turns no block but the device's own.
  Conditions: the device lies in memory as 'IsDev' says; what is held back is at most a million writes.
-/
import Derived.Test.YtaipjialomjhhaaDevM
import Derived.Deep.DeepMust
namespace Go.Proofs.Ytaipjialomjhhaa
open Go.RowKit

theorem Try.infoWrite : (Try.prog.info? 67).map (fun i => (i.zero, i.size, i.bytes)) = some (some (.agg #[.int .i64 0, .string ⟨#[]⟩]), 2, 24) := by kernel_rfl
theorem Try.undWrites : Try.prog.underlying 57 = some (.slice 67) := by kernel_rfl

theorem dev_there (a : Addr) (at' : Int) (na : Option Addr) (n cap : Nat) (w : World) (h0 : w.cell? a = some (.slice na n cap)) (_hn : (n : Int) ≤ 9223372036854775807) :
    Calls Try.prog 36 #[.pointer (some a), .int .i64 at'] w fun e w' => e = .returned (.bool (decide (0 ≤ at' ∧ at' < n))) ∧ w = w' := by
  by_cases h1 : 0 ≤ at'
  all_goals by_cases h2 : at' < n
  all_goals
    go_enter Try.func36, Try.ntmps36
    go_wp2
    go_ret
    simp [h1, h2]

theorem dev_down_cells (b : Nat) (armed : Bool) (left : Int) (w : World) (h3 : w.cell? ⟨b, 3, none⟩ = some (.bool armed)) (h4 : w.cell? ⟨b, 4, none⟩ = some (.int .i64 left)) :
    Calls Try.prog 17 #[.pointer (some ⟨b, 0, none⟩)] w fun e w' => e = .returned (.bool (armed && decide (left ≤ 0))) ∧ w = w' := by
  cases armed
  all_goals
    go_enter Try.func17, Try.ntmps17
    go_wp2
    go_ret
    simp

theorem Try.addInt64 {a : Addr} {x : Int} {w : World} (hc : w.cell? a = some (.int .i64 x)) (hz : w.frozen? a = false) (y : Int) :
    (callFunc 54 #[.pointer (some a), .int .i64 y]).run Try.prog w = .ok (.value (.int .i64 (wrap64 (x + y)))) (w.setCell a (.int .i64 (wrap64 (x + y)))) :=
  run_call_add (P := Try.prog) Try.func54 (by kernel_rfl) (by kernel_rfl) (by kernel_rfl) .i64 (by kernel_rfl) hc hz (by simp [go_sem, wrap64, IntKind.wrap_i64])

theorem atomic_add (b i : Nat) (x y : Int) (w : World) (hc : w.cell? ⟨b, i, none⟩ = some (.int .i64 x)) (hz : w.frozen? ⟨b, i, none⟩ = false) :
    Calls Try.prog 47 #[.pointer (some ⟨b, i, none⟩), .int .i64 y] w fun e w' => e = .returned (.int .i64 (wrap64 (x + y))) ∧ w' = w.setCell ⟨b, i, none⟩ (.int .i64 (wrap64 (x + y))) := by
  have h := Try.addInt64 hc hz y
  go_enter Try.func47, Try.ntmps47
  go_wp2
  go_ret
  exact ⟨rfl, rfl⟩

/-- The device's own block. -/
def devCells (bn bs n : Nat) (hv : Value) (armed : Bool) (left refused ops : Int) : Array Value :=
  #[.slice (some ⟨bn, 0, none⟩) n n, .slice (some ⟨bs, 0, none⟩) n n, hv, .bool armed, .int .i64 left, .int .i64 refused, .int .i64 ops]

set_option maxHeartbeats 400000 in
theorem dev_did_cells (b : Nat) (armed : Bool) (left ops : Int) (w : World) (h3 : w.cell? ⟨b, 3, none⟩ = some (.bool armed)) (h4 : w.cell? ⟨b, 4, none⟩ = some (.int .i64 left)) (h6 : w.cell? ⟨b, 6, none⟩ = some (.int .i64 ops)) (f4 : w.frozen? ⟨b, 4, none⟩ = false) (f6 : w.frozen? ⟨b, 6, none⟩ = false)
    (hl1 : -9223372036854775807 ≤ left ∨ armed = false) (hl2 : left ≤ 9223372036854775807) :
    Calls Try.prog 37 #[.pointer (some ⟨b, 0, none⟩)] w fun e w' => e = .returned (.tuple #[]) ∧ w' = (if armed = true then (w.setCell ⟨b, 6, none⟩ (.int .i64 (wrap64 (ops + 1)))).setCell ⟨b, 4, none⟩ (.int .i64 (left - 1)) else w.setCell ⟨b, 6, none⟩ (.int .i64 (wrap64 (ops + 1)))) := by
  cases armed
  · clear hl1
    go_enter Try.func37, Try.ntmps37
    go_wp2_with (go_at_call 47; refine (atomic_add b 6 _ _ _ h6 f6).mono ?_; rintro e w' ⟨rfl, rfl⟩)
    go_end0
    simp
  · have hl1 : -9223372036854775807 ≤ left := hl1.resolve_right (by simp)
    go_enter Try.func37, Try.ntmps37
    go_wp2_with (go_at_call 47; refine (atomic_add b 6 _ _ _ h6 f6).mono ?_; rintro e w' ⟨rfl, rfl⟩)
    go_end0
    simp

/-- The same, said of the block: only the block b is turned. -/
theorem dev_did (b bn bs n : Nat) (hv : Value) (armed : Bool) (left refused ops : Int) (w : World) (hb : w.heap[b]? = some (.cells (devCells bn bs n hv armed left refused ops) 64 (0, 0)))
    (hl1 : -9223372036854775807 ≤ left ∨ armed = false) (hl2 : left ≤ 9223372036854775807) :
    Calls Try.prog 37 #[.pointer (some ⟨b, 0, none⟩)] w fun e w' => e = .returned (.tuple #[]) ∧ Only [b] w w' ∧
      w'.heap[b]? = some (.cells (devCells bn bs n hv armed (if armed = true then left - 1 else left) refused (wrap64 (ops + 1))) 64 (0, 0)) := by
  refine (dev_did_cells b armed left ops w (cell_of_block hb 3 rfl) (cell_of_block hb 4 rfl) (cell_of_block hb 6 rfl) (free_of_block hb 4) (free_of_block hb 6) hl1 hl2).mono ?_
  rintro e w' ⟨rfl, rfl⟩
  cases armed
  · simp only [Bool.false_eq_true, if_false]
    refine ⟨trivial, Only.cellAt w b 6 _, ?_⟩
    rw [heap_setCell_self hb]; rfl
  · refine ⟨rfl, ?_, ?_⟩
    · simp only [if_true]
      exact (Only.cellAt w b 6 _).trans (Only.cellAt _ b 4 _) (Within.refl _ _)
    · simp only [if_true]
      rw [heap_setCell_self (heap_setCell_self hb)]; rfl

/-- What is held back, as cells. -/
def heldCells (l : List (Nat × ByteArray)) : List Value := l.flatMap fun p => [.int .i64 (p.1 : Int), .string p.2]

theorem heldCells_snoc (l : List (Nat × ByteArray)) (p : Nat × ByteArray) : heldCells (l ++ [p]) = heldCells l ++ [.int .i64 (p.1 : Int), .string p.2] := by simp [heldCells]

/-- What holds of a device's data at any time. -/
structure DevS.Wf (d : DevS) : Prop where
  same : d.safe.length = d.now.length
  few : d.now.length ≤ 8192
  now : ∀ s ∈ d.now, s.size = 512
  safe : ∀ s ∈ d.safe, s.size = 512
  held : ∀ p ∈ d.held, p.1 < d.now.length ∧ p.2.size = 512
  l1 : -9223372036854775808 ≤ d.left
  l2 : d.left ≤ 9223372036854775807
  r1 : 0 ≤ d.refused
  r2 : d.refused ≤ 9223372036854775807
  o1 : -9223372036854775808 ≤ d.ops
  o2 : d.ops ≤ 9223372036854775807

/-- The device d lies at block b; F: all its blocks. -/
structure DevAt (w : World) (b bn bs : Nat) (hv : Value) (d : DevS) : Prop where
  wf : d.Wf
  self : w.heap[b]? = some (.cells (devCells bn bs d.now.length hv d.armed d.left d.refused d.ops) 64 (0, 0))
  now : w.heap[bn]? = some (.cells (d.now.map Value.string).toArray 9 (0, 0))
  safe : w.heap[bs]? = some (.cells (d.safe.map Value.string).toArray 9 (0, 0))
  held : w.ownsRow 0 67 2 hv d.held.length (heldCells d.held)
  n1 : b ≠ bn
  n2 : b ≠ bs
  n3 : bn ≠ bs
  n4 : ∀ k, hv.ownBlock = some k → k ≠ b ∧ k ≠ bn ∧ k ≠ bs

def IsDev (w : World) (b : Nat) (F : List Nat) (d : DevS) : Prop := ∃ bn bs hv, DevAt w b bn bs hv d ∧ F = b :: bn :: bs :: hv.ownBlock.toList

theorem IsDev.wf {w : World} {b : Nat} {F : List Nat} {d : DevS} (h : IsDev w b F d) : d.Wf := by
  obtain ⟨_, _, _, h, _⟩ := h; exact h.wf

theorem IsDev.lt {w : World} {b : Nat} {F : List Nat} {d : DevS} (h : IsDev w b F d) : ∀ k ∈ F, k < w.heap.size := by
  obtain ⟨bn, bs, hv, h, rfl⟩ := h
  intro k hk
  simp only [List.mem_cons] at hk
  rcases hk with rfl | rfl | rfl | hk
  · exact lt_of_block h.self
  · exact lt_of_block h.now
  · exact lt_of_block h.safe
  · exact (h.held.lt k (by simpa using hk)).2

theorem IsDev.mem {w : World} {b : Nat} {F : List Nat} {d : DevS} (h : IsDev w b F d) : b ∈ F := by
  obtain ⟨bn, bs, hv, h, rfl⟩ := h; simp

/-- What another call turned leaves a device as it is. -/
theorem IsDev.only {w w' : World} {b : Nat} {F G : List Nat} {d : DevS} (h : IsDev w b F d) (ho : Only G w w') (hd : ∀ k ∈ F, k ∉ G) : IsDev w' b F d := by
  obtain ⟨bn, bs, hv, h, rfl⟩ := h
  refine ⟨bn, bs, hv, ⟨h.wf, ho.keeps h.self (hd _ (by simp)), ho.keeps h.now (hd _ (by simp)), ho.keeps h.safe (hd _ (by simp)), ?_, h.n1, h.n2, h.n3, h.n4⟩, rfl⟩
  exact ownsRow_only h.held ho fun k hk => hd k (by simp [hk])

end Go.Proofs.Ytaipjialomjhhaa
