/-
  What is proved here: the device's small functions (Read, Down, Held, Ops, Sectors, Arm, Refuse) come to what their plain twins say; and what each call does at the nil device.
  Conditions: the device lies in memory as 'IsDev' says; or the receiver is nil.
-/
import Derived.Test.YtaipjialomjhhaaDevCrash
namespace Go.Proofs.Ytaipjialomjhhaa
open Go.RowKit

set_option maxRecDepth 100000 in
theorem dev_read (b : Nat) (F : List Nat) (d : DevS) (at' : Int) (w : World) (h : IsDev w b F d) :
    Calls Try.prog 14 #[.pointer (some ⟨b, 0, none⟩), .int .i64 at'] w fun e w' => e = .returned (.tuple #[.string (d.read at').1, .int .i64 (d.read at').2]) ∧ w = w' := by
  obtain ⟨bn, bs, hv, hd, rfl⟩ := h
  have h0 : w.cell? ⟨b, 0, none⟩ = some (.slice (some ⟨bn, 0, none⟩) d.now.length d.now.length) := cell_of_block hd.self 0 rfl
  have h3 : w.cell? ⟨b, 3, none⟩ = some (.bool d.armed) := cell_of_block hd.self 3 rfl
  have h4 : w.cell? ⟨b, 4, none⟩ = some (.int .i64 d.left) := cell_of_block hd.self 4 rfl
  have hfew := hd.wf.few
  by_cases hat : 0 ≤ at' ∧ at' < d.now.length
  · have hthere : decide (0 ≤ at' ∧ at' < (d.now.length : Int)) = true := by simpa using hat
    cases hdn : d.down
    · have hval : d.read at' = (d.now.getD at'.toNat ByteArray.empty, 0) := by simp only [DevS.read]; rw [if_pos hat, hdn]; rfl
      rw [hval]
      obtain ⟨k, rfl⟩ : ∃ k : Nat, at' = (k : Int) := ⟨at'.toNat, by omega⟩
      have hlt : k < d.now.length := by omega
      have hc : w.cell? ⟨bn, k, none⟩ = some (.string (d.now.getD k ByteArray.empty)) := tear_cell hd.now hlt
      rw [Int.toNat_natCast]
      generalize d.now.getD k ByteArray.empty = t at *
      have HT := Lib.hid hthere; clear hthere hat
      have HD := Lib.hid hdn; clear hdn hval
      clear hd
      go_enter Try.func14, Try.ntmps14
      go_wp2_with (first | (go_at_call 36; refine (dev_there _ _ _ _ _ _ h0 (by omega)).mono ?_; rintro e w' ⟨rfl, rfl⟩; rw [HT.out]) | (go_at_call 17; refine (dev_down_cells _ _ _ _ h3 h4).mono ?_; rintro e w' ⟨rfl, rfl⟩; rw [show (d.armed && decide (d.left ≤ 0)) = false from HD.out]))
      go_ret2
      exact ⟨rfl, rfl⟩
    · have hval : d.read at' = (ByteArray.empty, 41) := by simp only [DevS.read]; rw [if_pos hat, hdn]; rfl
      rw [hval]
      have HT := Lib.hid hthere; clear hthere hat
      have HD := Lib.hid hdn; clear hdn hval hd
      go_enter Try.func14, Try.ntmps14
      go_wp2_with (first | (go_at_call 36; refine (dev_there _ _ _ _ _ _ h0 (by omega)).mono ?_; rintro e w' ⟨rfl, rfl⟩; rw [HT.out]) | (go_at_call 17; refine (dev_down_cells _ _ _ _ h3 h4).mono ?_; rintro e w' ⟨rfl, rfl⟩; rw [show (d.armed && decide (d.left ≤ 0)) = true from HD.out]))
      go_ret2
      exact ⟨rfl, rfl⟩
  · have hval : d.read at' = (ByteArray.empty, 40) := by simp only [DevS.read]; rw [if_neg hat]
    rw [hval]
    have hthere : decide (0 ≤ at' ∧ at' < (d.now.length : Int)) = false := by simpa using hat
    have HT := Lib.hid hthere; clear hthere hat hval hd
    go_enter Try.func14, Try.ntmps14
    go_wp2_with (go_at_call 36; refine (dev_there _ _ _ _ _ _ h0 (by omega)).mono ?_; rintro e w' ⟨rfl, rfl⟩; rw [HT.out])
    go_ret2
    exact ⟨rfl, rfl⟩

theorem dev_down (b : Nat) (F : List Nat) (d : DevS) (w : World) (h : IsDev w b F d) :
    Calls Try.prog 17 #[.pointer (some ⟨b, 0, none⟩)] w fun e w' => e = .returned (.bool d.down) ∧ w = w' := by
  obtain ⟨bn, bs, hv, hd, rfl⟩ := h
  exact dev_down_cells b d.armed d.left w (cell_of_block hd.self 3 rfl) (cell_of_block hd.self 4 rfl)

theorem dev_held (b : Nat) (F : List Nat) (d : DevS) (w : World) (h : IsDev w b F d) :
    Calls Try.prog 16 #[.pointer (some ⟨b, 0, none⟩)] w fun e w' => e = .returned (.int .i64 d.held.length) ∧ w = w' := by
  obtain ⟨bn, bs, hv, hd, rfl⟩ := h
  obtain ⟨p, q, rfl⟩ := ownsRow_slice hd.held
  have h2 : w.cell? ⟨b, 2, none⟩ = some (.slice p d.held.length q) := cell_of_block hd.self 2 rfl
  clear hd
  go_enter Try.func16, Try.ntmps16
  go_wp2
  go_ret
  exact ⟨rfl, rfl⟩

theorem dev_sectors (b : Nat) (F : List Nat) (d : DevS) (w : World) (h : IsDev w b F d) :
    Calls Try.prog 33 #[.pointer (some ⟨b, 0, none⟩)] w fun e w' => e = .returned (.int .i64 d.now.length) ∧ w = w' := by
  obtain ⟨bn, bs, hv, hd, rfl⟩ := h
  have h0 : w.cell? ⟨b, 0, none⟩ = some (.slice (some ⟨bn, 0, none⟩) d.now.length d.now.length) := cell_of_block hd.self 0 rfl
  clear hd
  go_enter Try.func33, Try.ntmps33
  go_wp2
  go_ret
  exact ⟨rfl, rfl⟩

theorem Try.loadInt64 {a : Addr} {x : Int} {w : World} (hc : w.cell? a = some (.int .i64 x)) :
    (callFunc 48 #[.pointer (some a)]).run Try.prog w = .ok (.value (.int .i64 x)) w :=
  run_call_load (P := Try.prog) Try.func48 (by kernel_rfl) (by kernel_rfl) (by kernel_rfl) .i64 (by kernel_rfl) hc

theorem atomic_load (b i : Nat) (x : Int) (w : World) (hc : w.cell? ⟨b, i, none⟩ = some (.int .i64 x)) :
    Calls Try.prog 39 #[.pointer (some ⟨b, i, none⟩)] w fun e w' => e = .returned (.int .i64 x) ∧ w = w' := by
  have h := Try.loadInt64 hc
  go_enter Try.func39, Try.ntmps39
  go_wp2
  go_ret
  exact ⟨rfl, rfl⟩

theorem dev_ops (b : Nat) (F : List Nat) (d : DevS) (w : World) (h : IsDev w b F d) :
    Calls Try.prog 20 #[.pointer (some ⟨b, 0, none⟩)] w fun e w' => e = .returned (.int .i64 d.ops) ∧ w = w' := by
  obtain ⟨bn, bs, hv, hd, rfl⟩ := h
  have h6 : w.cell? ⟨b, 6, none⟩ = some (.int .i64 d.ops) := cell_of_block hd.self 6 rfl
  have o1 := hd.wf.o1
  have o2 := hd.wf.o2
  clear hd
  go_enter Try.func20, Try.ntmps20
  go_wp2_with (go_at_call 39; refine (atomic_load _ _ _ _ h6).mono ?_; rintro e w' ⟨rfl, rfl⟩)
  go_ret
  exact ⟨rfl, rfl⟩

theorem dev_refuse (b : Nat) (F : List Nat) (d : DevS) (n : Int) (w : World) (h : IsDev w b F d) (hn : n ≤ 9223372036854775807) :
    Calls Try.prog 19 #[.pointer (some ⟨b, 0, none⟩), .int .i64 n] w (DevDid b F w (.tuple #[]) (d.refuse n)) := by
  obtain ⟨bn, bs, hv, hd, rfl⟩ := h
  have h5 : w.cell? ⟨b, 5, none⟩ = some (.int .i64 d.refused) := cell_of_block hd.self 5 rfl
  have f5 := free_of_block hd.self 5
  have hend : DevDid b (b :: bn :: bs :: hv.ownBlock.toList) w (.tuple #[]) (d.refuse n) (.returned (.tuple #[])) (w.setCell ⟨b, 5, none⟩ (.int .i64 (max n 0))) := by
    have ho := Only.cellAt w b 5 (.int .i64 (max n 0))
    refine ⟨_, rfl, ⟨bn, bs, hv, ⟨⟨hd.wf.same, hd.wf.few, hd.wf.now, hd.wf.safe, hd.wf.held, hd.wf.l1, hd.wf.l2, ?_, ?_, hd.wf.o1, hd.wf.o2⟩, ?_, ho.keeps hd.now (by simpa using hd.n1.symm), ho.keeps hd.safe (by simpa using hd.n2.symm), ?_, hd.n1, hd.n2, hd.n3, hd.n4⟩, rfl⟩, ho.mono (by simp), Within.refl _ _⟩
    · show 0 ≤ max n 0; omega
    · show max n 0 ≤ _; omega
    · rw [heap_setCell_self hd.self]; rfl
    · exact ownsRow_only hd.held ho (fun k hk => by simpa using (hd.n4 k hk).1)
  clear hd
  by_cases h0 : 0 ≤ n
  all_goals
    first | rw [show max n 0 = n from by omega] at hend | rw [show max n 0 = 0 from by omega] at hend
    have HE := Lib.hid hend; clear hend
    go_enter Try.func19, Try.ntmps19
    go_wp2
    go_end0
    exact HE.out

theorem dev_arm (b : Nat) (F : List Nat) (d : DevS) (n : Int) (w : World) (h : IsDev w b F d) (hn1 : -9223372036854775808 ≤ n) (hn : n ≤ 9223372036854775807) :
    Calls Try.prog 18 #[.pointer (some ⟨b, 0, none⟩), .int .i64 n] w (DevDid b F w (.tuple #[]) (d.arm n)) := by
  obtain ⟨bn, bs, hv, hd, rfl⟩ := h
  have h3 : w.cell? ⟨b, 3, none⟩ = some (.bool d.armed) := cell_of_block hd.self 3 rfl
  have h4 : w.cell? ⟨b, 4, none⟩ = some (.int .i64 d.left) := cell_of_block hd.self 4 rfl
  have f3 := free_of_block hd.self 3
  have f4 := free_of_block hd.self 4
  have hend : DevDid b (b :: bn :: bs :: hv.ownBlock.toList) w (.tuple #[]) (d.arm n) (.returned (.tuple #[])) ((w.setCell ⟨b, 3, none⟩ (.bool (decide (0 ≤ n)))).setCell ⟨b, 4, none⟩ (.int .i64 n)) := by
    have ho := (Only.cellAt w b 3 (.bool (decide (0 ≤ n)))).trans (Only.cellAt _ b 4 (.int .i64 n)) (Within.refl _ _)
    refine ⟨_, rfl, ⟨bn, bs, hv, ⟨⟨hd.wf.same, hd.wf.few, hd.wf.now, hd.wf.safe, hd.wf.held, hn1, hn, hd.wf.r1, hd.wf.r2, hd.wf.o1, hd.wf.o2⟩, ?_, ho.keeps hd.now (by simpa using hd.n1.symm), ho.keeps hd.safe (by simpa using hd.n2.symm), ?_, hd.n1, hd.n2, hd.n3, hd.n4⟩, rfl⟩, ho.mono (by simp), Within.refl _ _⟩
    · rw [heap_setCell_self (heap_setCell_self hd.self)]; rfl
    · exact ownsRow_only hd.held ho (fun k hk => by simpa using (hd.n4 k hk).1)
  have HE := Lib.hid hend; clear hend hd
  go_enter Try.func18, Try.ntmps18
  go_wp2
  go_end0
  exact HE.out

/- The nil device. -/
theorem nil_down (w : World) : Calls Try.prog 17 #[.pointer none] w fun e w' => e = .returned (.bool true) ∧ w = w' := by
  go_enter Try.func17, Try.ntmps17
  go_wp2
  go_ret
  exact ⟨rfl, rfl⟩
theorem nil_read (at' : Int) (w : World) : Calls Try.prog 14 #[.pointer none, .int .i64 at'] w fun e w' => e = .returned (.tuple #[.string ByteArray.empty, .int .i64 41]) ∧ w = w' := by
  go_enter Try.func14, Try.ntmps14
  go_wp2
  go_ret2
  exact ⟨rfl, rfl⟩
set_option maxRecDepth 100000 in
theorem nil_write (at' : Int) (s : ByteArray) (w : World) : Calls Try.prog 10 #[.pointer none, .int .i64 at', .string s] w fun e w' => e = .returned (.int .i64 41) ∧ w = w' := by
  go_enter Try.func10, Try.ntmps10
  go_wp2
  go_ret
  exact ⟨rfl, rfl⟩
theorem nil_flush (w : World) : Calls Try.prog 13 #[.pointer none] w fun e w' => e = .returned (.int .i64 41) ∧ w = w' := by
  go_enter Try.func13, Try.ntmps13
  go_wp2_with (go_at_call 17; refine (nil_down _).mono ?_; rintro e w' ⟨rfl, rfl⟩)
  go_ret
  exact ⟨rfl, rfl⟩
theorem nil_arm (n : Int) (w : World) : Calls Try.prog 18 #[.pointer none, .int .i64 n] w fun e w' => e = .returned (.tuple #[]) ∧ w = w' := by
  go_enter Try.func18, Try.ntmps18
  go_wp2
  go_end0
  exact ⟨rfl, rfl⟩
theorem nil_refuse (n : Int) (w : World) : Calls Try.prog 19 #[.pointer none, .int .i64 n] w fun e w' => e = .returned (.tuple #[]) ∧ w = w' := by
  go_enter Try.func19, Try.ntmps19
  go_wp2
  go_end0
  exact ⟨rfl, rfl⟩
set_option maxRecDepth 100000 in
theorem nil_crash (kv : Value) (w : World) : Calls Try.prog 15 #[.pointer none, kv] w fun e w' => e = .returned (.tuple #[]) ∧ w = w' := by
  go_enter Try.func15, Try.ntmps15
  go_wp2_with fail
  exact bodyPost_ret (v := .tuple #[]) (by simp [results, Try.results15, go_sem]) rfl ⟨rfl, rfl⟩
theorem nil_sectors (w : World) : Calls Try.prog 33 #[.pointer none] w fun e w' => e = .returned (.int .i64 0) ∧ w = w' := by
  go_enter Try.func33, Try.ntmps33
  go_wp2
  go_ret
  exact ⟨rfl, rfl⟩
theorem nil_held (w : World) : Calls Try.prog 16 #[.pointer none] w fun e w' => e = .returned (.int .i64 0) ∧ w = w' := by
  go_enter Try.func16, Try.ntmps16
  go_wp2
  go_ret
  exact ⟨rfl, rfl⟩
theorem nil_ops (w : World) : Calls Try.prog 20 #[.pointer none] w fun e w' => e = .returned (.int .i64 0) ∧ w = w' := by
  go_enter Try.func20, Try.ntmps20
  go_wp2
  go_ret
  exact ⟨rfl, rfl⟩

end Go.Proofs.Ytaipjialomjhhaa
