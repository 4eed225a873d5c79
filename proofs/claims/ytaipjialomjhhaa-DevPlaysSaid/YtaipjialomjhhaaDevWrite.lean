/-
  What is proved here: '(*dev.Dev).Write' comes to what its plain twin 'DevS.write' says; only the device's own blocks are turned.
  Conditions: the device lies in memory as 'IsDev' says; fewer than a million writes are held back.
-/
import Derived.Test.YtaipjialomjhhaaDev
namespace Go.Proofs.Ytaipjialomjhhaa
open Go.RowKit

set_option maxRecDepth 100000 in
set_option maxHeartbeats 400000 in
theorem write_place (b bn bs n : Nat) (hv : Value) (armed : Bool) (left refused ops : Int) (at' : Int) (s : ByteArray) (w : World)
    (hb : w.heap[b]? = some (.cells (devCells bn bs n hv armed left refused ops) 64 (0, 0))) (hn : n ≤ 8192) (hat : ¬ (0 ≤ at' ∧ at' < n)) :
    Calls Try.prog 10 #[.pointer (some ⟨b, 0, none⟩), .int .i64 at', .string s] w fun e w' => e = .returned (.int .i64 40) ∧ w = w' := by
  have h0 : w.cell? ⟨b, 0, none⟩ = some (.slice (some ⟨bn, 0, none⟩) n n) := cell_of_block hb 0 rfl
  have hthere : decide (0 ≤ at' ∧ at' < (n : Int)) = false := by simpa using hat
  have HT := Lib.hid hthere; clear hthere hat hb
  go_enter Try.func10, Try.ntmps10
  go_wp2_with (go_at_call 36; refine (dev_there _ _ _ _ _ _ h0 (by omega)).mono ?_; rintro e w' ⟨rfl, rfl⟩; rw [HT.out])
  go_ret
  exact ⟨rfl, rfl⟩

set_option maxRecDepth 100000 in
set_option maxHeartbeats 400000 in
theorem write_long (b bn bs n : Nat) (hv : Value) (armed : Bool) (left refused ops : Int) (at' : Int) (s : ByteArray) (w : World)
    (hb : w.heap[b]? = some (.cells (devCells bn bs n hv armed left refused ops) 64 (0, 0))) (hn : n ≤ 8192) (hat : 0 ≤ at' ∧ at' < n) (hs : s.size ≠ 512) :
    Calls Try.prog 10 #[.pointer (some ⟨b, 0, none⟩), .int .i64 at', .string s] w fun e w' => e = .returned (.int .i64 2) ∧ w = w' := by
  have h0 : w.cell? ⟨b, 0, none⟩ = some (.slice (some ⟨bn, 0, none⟩) n n) := cell_of_block hb 0 rfl
  have hthere : decide (0 ≤ at' ∧ at' < (n : Int)) = true := by simpa using hat
  have HT := Lib.hid hthere; clear hthere hat hb
  have hss' : ((s.size : Int) != 512) = true := by rw [bne_iff_ne]; omega
  go_enter Try.func10, Try.ntmps10
  go_wp2_with (go_at_call 36; refine (dev_there _ _ _ _ _ _ h0 (by omega)).mono ?_; rintro e w' ⟨rfl, rfl⟩; rw [HT.out])
  go_ret
  exact ⟨rfl, rfl⟩

set_option maxRecDepth 100000 in
set_option maxHeartbeats 400000 in
theorem write_down (b bn bs n : Nat) (hv : Value) (armed : Bool) (left refused ops : Int) (at' : Int) (s : ByteArray) (w : World)
    (hb : w.heap[b]? = some (.cells (devCells bn bs n hv armed left refused ops) 64 (0, 0))) (hn : n ≤ 8192) (hat : 0 ≤ at' ∧ at' < n) (hs : s.size = 512) (hd : (armed && decide (left ≤ 0)) = true) :
    Calls Try.prog 10 #[.pointer (some ⟨b, 0, none⟩), .int .i64 at', .string s] w fun e w' => e = .returned (.int .i64 41) ∧ w = w' := by
  have h0 : w.cell? ⟨b, 0, none⟩ = some (.slice (some ⟨bn, 0, none⟩) n n) := cell_of_block hb 0 rfl
  have h3 : w.cell? ⟨b, 3, none⟩ = some (.bool armed) := cell_of_block hb 3 rfl
  have h4 : w.cell? ⟨b, 4, none⟩ = some (.int .i64 left) := cell_of_block hb 4 rfl
  have hthere : decide (0 ≤ at' ∧ at' < (n : Int)) = true := by simpa using hat
  have HT := Lib.hid hthere; clear hthere hat hb
  have HD := Lib.hid hd; clear hd
  have hss' : ((s.size : Int) != 512) = false := by simp [hs]
  have HS := Lib.hid hs; clear hs
  go_enter Try.func10, Try.ntmps10
  go_wp2_with (first | (go_at_call 36; refine (dev_there _ _ _ _ _ _ h0 (by omega)).mono ?_; rintro e w' ⟨rfl, rfl⟩; rw [HT.out]) | (go_at_call 17; refine (dev_down_cells _ _ _ _ h3 h4).mono ?_; rintro e w' ⟨rfl, rfl⟩; rw [HD.out]))
  go_ret
  exact ⟨rfl, rfl⟩

set_option maxRecDepth 100000 in
set_option maxHeartbeats 400000 in
theorem write_broken (b bn bs n : Nat) (hv : Value) (armed : Bool) (left ops : Int) (at' : Int) (s : ByteArray) (w : World)
    (hb : w.heap[b]? = some (.cells (devCells bn bs n hv armed left 1 ops) 64 (0, 0))) (hn : n ≤ 8192) (hat : 0 ≤ at' ∧ at' < n) (hs : s.size = 512) (hd : (armed && decide (left ≤ 0)) = false) :
    Calls Try.prog 10 #[.pointer (some ⟨b, 0, none⟩), .int .i64 at', .string s] w fun e w' => e = .returned (.int .i64 42) ∧ w' = w.setCell ⟨b, 5, none⟩ (.int .i64 0) := by
  have h0 : w.cell? ⟨b, 0, none⟩ = some (.slice (some ⟨bn, 0, none⟩) n n) := cell_of_block hb 0 rfl
  have h3 : w.cell? ⟨b, 3, none⟩ = some (.bool armed) := cell_of_block hb 3 rfl
  have h4 : w.cell? ⟨b, 4, none⟩ = some (.int .i64 left) := cell_of_block hb 4 rfl
  have h5 : w.cell? ⟨b, 5, none⟩ = some (.int .i64 1) := cell_of_block hb 5 rfl
  have f5 := free_of_block hb 5
  have hthere : decide (0 ≤ at' ∧ at' < (n : Int)) = true := by simpa using hat
  have HT := Lib.hid hthere; clear hthere hat hb
  have HD := Lib.hid hd; clear hd
  have hss' : ((s.size : Int) != 512) = false := by simp [hs]
  have HS := Lib.hid hs; clear hs
  go_enter Try.func10, Try.ntmps10
  go_wp2_with (first | (go_at_call 36; refine (dev_there _ _ _ _ _ _ h0 (by omega)).mono ?_; rintro e w' ⟨rfl, rfl⟩; rw [HT.out]) | (go_at_call 17; refine (dev_down_cells _ _ _ _ h3 h4).mono ?_; rintro e w' ⟨rfl, rfl⟩; rw [HD.out]))
  go_ret
  exact ⟨rfl, rfl⟩

/-- What is behind the test of 'refused': the sector is written, and the write held back. -/
def WroteAt (b bn bs n : Nat) (hv : Value) (armed : Bool) (left refused ops : Int) (at' : Nat) (s : ByteArray) (k : Nat) (xs : List Value) (cs : Array Value) (w : World) (e : Ending) (w' : World) : Prop :=
  ∃ hv', e = .returned (.int .i64 0) ∧ Only (b :: bn :: hv.ownBlock.toList) w w' ∧ Within w hv.ownBlock.toList hv'.ownBlock.toList ∧
    w'.heap[b]? = some (.cells (devCells bn bs n hv' armed (if armed = true then left - 1 else left) refused (wrap64 (ops + 1))) 64 (0, 0)) ∧
    w'.heap[bn]? = some (.cells (cs.setIfInBounds at' (.string s)) 9 (0, 0)) ∧
    w'.ownsRow 0 67 2 hv' (k + 1) (xs ++ [.int .i64 (at' : Int), .string s])

set_option maxRecDepth 100000 in
set_option maxHeartbeats 1000000 in
theorem write_ok (b bn bs n : Nat) (hv : Value) (armed : Bool) (left refused ops : Int) (at' : Nat) (s : ByteArray) (k : Nat) (xs : List Value) (cs : Array Value) (w : World)
    (hb : w.heap[b]? = some (.cells (devCells bn bs n hv armed left refused ops) 64 (0, 0)))
    (hn : w.heap[bn]? = some (.cells cs 9 (0, 0))) (hcs : cs.size = n) (hne : b ≠ bn) (hnm : n ≤ 8192)
    (hown : w.ownsRow 0 67 2 hv k xs) (hvn : ∀ g, hv.ownBlock = some g → g ≠ b ∧ g ≠ bn) (hat : at' < n) (hss : s.size = 512) (hdown : (armed && decide (left ≤ 0)) = false)
    (hl1 : -9223372036854775807 ≤ left ∨ armed = false) (hl2 : left ≤ 9223372036854775807) (hr : refused ≤ 0) (hk : k ≤ 1000000) :
    Calls Try.prog 10 #[.pointer (some ⟨b, 0, none⟩), .int .i64 at', .string s] w (WroteAt b bn bs n hv armed left refused ops at' s k xs cs w) := by
  have h0 : w.cell? ⟨b, 0, none⟩ = some (.slice (some ⟨bn, 0, none⟩) n n) := cell_of_block hb 0 rfl
  have h2 : w.cell? ⟨b, 2, none⟩ = some hv := cell_of_block hb 2 rfl
  have h3 : w.cell? ⟨b, 3, none⟩ = some (.bool armed) := cell_of_block hb 3 rfl
  have h4 : w.cell? ⟨b, 4, none⟩ = some (.int .i64 left) := cell_of_block hb 4 rfl
  have h5 : w.cell? ⟨b, 5, none⟩ = some (.int .i64 refused) := cell_of_block hb 5 rfl
  have fn := free_of_block hn at'
  obtain ⟨u, hc⟩ : ∃ u, w.cell? ⟨bn, at', none⟩ = some u := ⟨cs[at'], cell_of_block hn at' (by simp [hcs, hat])⟩
  have hbl := lt_of_block hb
  have hnl := lt_of_block hn
  have HV := Lib.hid hvn; clear hvn
  have H1 := Lib.hid hb; clear hb
  have H2 := Lib.hid hn; clear hn
  clear hcs
  have HD := Lib.hid hdown; clear hdown
  have HO := Lib.hid hown; clear hown
  obtain ⟨iw, IW⟩ := info_of Try.infoWrite
  have hss' : ((s.size : Int) != 512) = false := by simp [hss]
  have HS := Lib.hid hss; clear hss
  have hthere : decide (0 ≤ (at' : Int) ∧ (at' : Int) < (n : Int)) = true := by simp; omega
  have HT := Lib.hid hthere; clear hthere
  go_enter Try.func10, Try.ntmps10
  go_wp2_with (first | (go_at_call 36; refine (dev_there _ _ _ _ _ _ h0 (by omega)).mono ?_; rintro e w' ⟨rfl, rfl⟩; rw [HT.out]) | (go_at_call 17; refine (dev_down_cells _ _ _ _ h3 h4).mono ?_; rintro e w' ⟨rfl, rfl⟩; rw [HD.out]) | (at_builtin; go_must (refine wpList_append_new (e := 67) rfl (.tmp 50) (.tmp 54) 57 rfl iw _ 2 24 Try.undWrites IW.out rfl (by decide) hv k xs rfl rfl (by simp) rfl ?one ?own (by unfold maxLen; omega) (by omega) ?_)))
  case one => exact ⟨rfl, rfl⟩
  case own => exact ownsRow_setCell_other HO.out (fun e => (HV.out _ e).2 rfl) _
  intro hp' hc' w1 hown1 ho1 hw1
  obtain ⟨v', hv'⟩ : ∃ v' : Value, v' = .slice hp' (k + 1) hc' := ⟨_, rfl⟩
  rw [← hv'] at hown1 hw1
  have hbv : b ∉ hv.ownBlock.toList := by intro q; simp at q; exact (HV.out b q).1 rfl
  have hnv : bn ∉ hv.ownBlock.toList := by intro q; simp at q; exact (HV.out bn q).2 rfl
  have hb1 : w1.heap[b]? = some (.cells (devCells bn bs n hv armed left refused ops) 64 (0, 0)) := ho1.keeps (by rw [heap_setCell_ne (by exact hne)]; exact H1.out) hbv
  have hn1 : w1.heap[bn]? = some (.cells (cs.setIfInBounds at' (.string s)) 9 (0, 0)) := ho1.keeps (heap_setCell_self H2.out) hnv
  have h21 : w1.cell? ⟨b, 2, none⟩ = some hv := cell_of_block hb1 2 rfl
  have f21 := free_of_block hb1 2
  have hb2 : (w1.setCell ⟨b, 2, none⟩ v').heap[b]? = some (.cells (devCells bn bs n v' armed left refused ops) 64 (0, 0)) := by rw [heap_setCell_self hb1]; rfl
  have hvb : ∀ g, v'.ownBlock = some g → g ≠ b ∧ g ≠ bn := by
    intro g hg
    rcases hw1 g (by simp [hg]) with q | q
    · exact HV.out g (by simpa using q)
    · simp at q; omega
  have ho2 : Only (b :: bn :: hv.ownBlock.toList) w (w1.setCell ⟨b, 2, none⟩ v') := by
    refine Only.trans (F := b :: bn :: hv.ownBlock.toList) (G := [b]) ((((Only.cellAt w bn at' (.string s)).mono ?_).trans ho1 ?_)) (Only.cellAt _ b 2 _) ?_
    · simp
    · intro k hk; left; simp at hk; simp [hk]
    · intro k hk; left; simp at hk; simp [hk]
  have hn2 : (w1.setCell ⟨b, 2, none⟩ v').heap[bn]? = some (.cells (cs.setIfInBounds at' (.string s)) 9 (0, 0)) := by rw [heap_setCell_ne (by exact hne.symm)]; exact hn1
  have hown2 : (w1.setCell ⟨b, 2, none⟩ v').ownsRow 0 67 2 v' (k + 1) (xs ++ [.int .i64 (at' : Int), .string s]) := ownsRow_setCell_other hown1 (fun e => (hvb _ e).1 rfl) _
  have hw2 : Within w hv.ownBlock.toList v'.ownBlock.toList := by
    intro g hg
    rcases hw1 g hg with q | q
    · exact .inl q
    · right; simpa using q
  have HB2 := Lib.hid hb2; clear hb2
  have HN2 := Lib.hid hn2; clear hn2
  have HO2 := Lib.hid ho2; clear ho2
  have HW2 := Lib.hid hw2; clear hw2
  have HOW2 := Lib.hid hown2; clear hown2
  have HVB := Lib.hid hvb; clear hvb
  clear ho1 hw1 hown1 hb1 hn1 hbv hnv h0 h2 h3 h4 h5 hc fn
  subst hv'
  go_wp2_with (go_at_call 37; refine (dev_did _ _ _ _ _ _ _ _ _ _ HB2.out hl1 hl2).mono ?_; rintro e w' ⟨rfl, ho3, hb3⟩)
  go_ret
  refine ⟨.slice hp' (k + 1) hc', rfl, HO2.out.trans ho3 (fun k hk => .inl (by simp at hk; simp [hk])), HW2.out, hb3, ho3.keeps HN2.out (by simpa using hne.symm), ownsRow_only HOW2.out ho3 (fun g hg => by simpa using (HVB.out g hg).1)⟩

set_option maxRecDepth 100000 in
set_option maxHeartbeats 1000000 in
theorem write_ok2 (b bn bs n : Nat) (hv : Value) (armed : Bool) (left refused ops : Int) (at' : Nat) (s : ByteArray) (k : Nat) (xs : List Value) (cs : Array Value) (w : World)
    (hb : w.heap[b]? = some (.cells (devCells bn bs n hv armed left refused ops) 64 (0, 0)))
    (hn : w.heap[bn]? = some (.cells cs 9 (0, 0))) (hcs : cs.size = n) (hne : b ≠ bn) (hnm : n ≤ 8192)
    (hown : w.ownsRow 0 67 2 hv k xs) (hvn : ∀ g, hv.ownBlock = some g → g ≠ b ∧ g ≠ bn) (hat : at' < n) (hss : s.size = 512) (hdown : (armed && decide (left ≤ 0)) = false)
    (hl1 : -9223372036854775807 ≤ left ∨ armed = false) (hl2 : left ≤ 9223372036854775807) (hr : 1 < refused) (hr2 : refused ≤ 9223372036854775807) (hk : k ≤ 1000000) :
    Calls Try.prog 10 #[.pointer (some ⟨b, 0, none⟩), .int .i64 at', .string s] w (WroteAt b bn bs n hv armed left (refused - 1) ops at' s k xs cs w) := by
  have h0 : w.cell? ⟨b, 0, none⟩ = some (.slice (some ⟨bn, 0, none⟩) n n) := cell_of_block hb 0 rfl
  have h2 : w.cell? ⟨b, 2, none⟩ = some hv := cell_of_block hb 2 rfl
  have h3 : w.cell? ⟨b, 3, none⟩ = some (.bool armed) := cell_of_block hb 3 rfl
  have h4 : w.cell? ⟨b, 4, none⟩ = some (.int .i64 left) := cell_of_block hb 4 rfl
  have h5 : w.cell? ⟨b, 5, none⟩ = some (.int .i64 refused) := cell_of_block hb 5 rfl
  have fn := free_of_block hn at'
  obtain ⟨u, hc⟩ : ∃ u, w.cell? ⟨bn, at', none⟩ = some u := ⟨cs[at'], cell_of_block hn at' (by simp [hcs, hat])⟩
  have f5 := free_of_block hb 5
  have hr3 : ((refused - 1) == 0) = false := by rw [beq_eq_false_iff_ne]; omega
  obtain ⟨w5, hw5⟩ : ∃ w5, w5 = w.setCell ⟨b, 5, none⟩ (.int .i64 (refused - 1)) := ⟨_, rfl⟩
  have hb5 : w5.heap[b]? = some (.cells (devCells bn bs n hv armed left (refused - 1) ops) 64 (0, 0)) := by rw [hw5, heap_setCell_self hb]; rfl
  have hn5 : w5.heap[bn]? = some (.cells cs 9 (0, 0)) := by rw [hw5, heap_setCell_ne (by exact hne.symm)]; exact hn
  have hown5 : w5.ownsRow 0 67 2 hv k xs := by rw [hw5]; exact ownsRow_setCell_other hown (fun e => (hvn _ e).1 rfl) _
  have hsz5 : w5.heap.size = w.heap.size := by rw [hw5]; simp
  have H5 := Lib.hid hw5; clear hw5
  have HS5 := Lib.hid hsz5; clear hsz5
  have hbl := lt_of_block hb
  have hnl := lt_of_block hn
  have HV := Lib.hid hvn; clear hvn
  have H1 := Lib.hid hb5; clear hb hb5
  have H2 := Lib.hid hn5; clear hn hn5
  clear hcs
  have HD := Lib.hid hdown; clear hdown
  have HO := Lib.hid hown5; clear hown hown5
  obtain ⟨iw, IW⟩ := info_of Try.infoWrite
  have hss' : ((s.size : Int) != 512) = false := by simp [hss]
  have HS := Lib.hid hss; clear hss
  have hthere : decide (0 ≤ (at' : Int) ∧ (at' : Int) < (n : Int)) = true := by simp; omega
  have HT := Lib.hid hthere; clear hthere
  go_enter Try.func10, Try.ntmps10
  go_wp2_with (first | (go_at_call 36; refine (dev_there _ _ _ _ _ _ h0 (by omega)).mono ?_; rintro e w' ⟨rfl, rfl⟩; rw [HT.out]) | (go_at_call 17; refine (dev_down_cells _ _ _ _ h3 h4).mono ?_; rintro e w' ⟨rfl, rfl⟩; rw [HD.out]) | (at_builtin; go_must (refine wpList_append_new (e := 67) rfl (.tmp 50) (.tmp 54) 57 rfl iw _ 2 24 Try.undWrites IW.out rfl (by decide) hv k xs rfl rfl (by simp) rfl ?one ?own (by unfold maxLen; omega) (by omega) ?_)))
  case one => exact ⟨rfl, rfl⟩
  case own => rw [← H5.out]; exact ownsRow_setCell_other HO.out (fun e => (HV.out _ e).2 rfl) _
  rw [← H5.out]
  intro hp' hc' w1 hown1 ho1 hw1
  obtain ⟨v', hv'⟩ : ∃ v' : Value, v' = .slice hp' (k + 1) hc' := ⟨_, rfl⟩
  rw [← hv'] at hown1 hw1
  have hbv : b ∉ hv.ownBlock.toList := by intro q; simp at q; exact (HV.out b q).1 rfl
  have hnv : bn ∉ hv.ownBlock.toList := by intro q; simp at q; exact (HV.out bn q).2 rfl
  have hb1 : w1.heap[b]? = some (.cells (devCells bn bs n hv armed left (refused - 1) ops) 64 (0, 0)) := ho1.keeps (by rw [heap_setCell_ne (by exact hne)]; exact H1.out) hbv
  have hn1 : w1.heap[bn]? = some (.cells (cs.setIfInBounds at' (.string s)) 9 (0, 0)) := ho1.keeps (heap_setCell_self H2.out) hnv
  have h21 : w1.cell? ⟨b, 2, none⟩ = some hv := cell_of_block hb1 2 rfl
  have f21 := free_of_block hb1 2
  have hb2 : (w1.setCell ⟨b, 2, none⟩ v').heap[b]? = some (.cells (devCells bn bs n v' armed left (refused - 1) ops) 64 (0, 0)) := by rw [heap_setCell_self hb1]; rfl
  have hvb : ∀ g, v'.ownBlock = some g → g ≠ b ∧ g ≠ bn := by
    intro g hg
    rcases hw1 g (by simp [hg]) with q | q
    · exact HV.out g (by simpa using q)
    · simp [HS5.out] at q; omega
  have ho2 : Only (b :: bn :: hv.ownBlock.toList) w5 (w1.setCell ⟨b, 2, none⟩ v') := by
    refine Only.trans (F := b :: bn :: hv.ownBlock.toList) (G := [b]) ((((Only.cellAt w5 bn at' (.string s)).mono ?_).trans ho1 ?_)) (Only.cellAt _ b 2 _) ?_
    · simp
    · intro k hk; left; simp at hk; simp [hk]
    · intro k hk; left; simp at hk; simp [hk]
  have hn2 : (w1.setCell ⟨b, 2, none⟩ v').heap[bn]? = some (.cells (cs.setIfInBounds at' (.string s)) 9 (0, 0)) := by rw [heap_setCell_ne (by exact hne.symm)]; exact hn1
  have hown2 : (w1.setCell ⟨b, 2, none⟩ v').ownsRow 0 67 2 v' (k + 1) (xs ++ [.int .i64 (at' : Int), .string s]) := ownsRow_setCell_other hown1 (fun e => (hvb _ e).1 rfl) _
  have hw2 : Within w5 hv.ownBlock.toList v'.ownBlock.toList := by
    intro g hg
    rcases hw1 g hg with q | q
    · exact .inl q
    · right; simpa using q
  have HB2 := Lib.hid hb2; clear hb2
  have HN2 := Lib.hid hn2; clear hn2
  have HO2 := Lib.hid ho2; clear ho2
  have HW2 := Lib.hid hw2; clear hw2
  have HOW2 := Lib.hid hown2; clear hown2
  have HVB := Lib.hid hvb; clear hvb
  have HWA : Hid (Only (b :: bn :: hv.ownBlock.toList) w w5) := by have h := H5.out; rw [h]; exact (Only.cellAt w b 5 _).mono (by simp)
  clear ho1 hw1 hown1 hb1 hn1 hbv hnv h0 h2 h3 h4 h5 hc fn
  subst hv'
  go_wp2_with (go_at_call 37; refine (dev_did _ _ _ _ _ _ _ _ _ _ HB2.out hl1 hl2).mono ?_; rintro e w' ⟨rfl, ho3, hb3⟩)
  go_ret
  refine ⟨.slice hp' (k + 1) hc', rfl, HWA.out.trans (HO2.out.trans ho3 (fun k hk => .inl (by simp at hk; simp [hk]))) (Within.refl _ _), (by intro g hg; have := HW2.out g hg; rw [HS5.out] at this; exact this), hb3, ho3.keeps HN2.out (by simpa using hne.symm), ownsRow_only HOW2.out ho3 (fun g hg => by simpa using (HVB.out g hg).1)⟩

theorem DevS.Wf.store {d : DevS} (h : d.Wf) (hd : d.down = false) {at' : Int} {s : ByteArray} (hat : 0 ≤ at' ∧ at' < d.now.length) (hs : s.size = 512) : (d.store at' s).Wf := by
  have hl : -9223372036854775808 ≤ (d.store at' s).left ∧ (d.store at' s).left ≤ 9223372036854775807 := by
    have h1 := h.l1
    have h2 := h.l2
    unfold DevS.store DevS.did
    unfold DevS.down at hd
    dsimp only
    cases ha : d.armed
    · simp only [Bool.false_eq_true, if_false]; omega
    · simp only [if_true]
      rw [ha] at hd
      simp at hd
      omega
  refine ⟨?_, ?_, ?_, h.safe, ?_, hl.1, hl.2, h.r1, h.r2, ?_, ?_⟩
  · simpa [DevS.store, DevS.did] using h.same
  · simpa [DevS.store, DevS.did] using h.few
  · intro x hx
    rcases List.mem_or_eq_of_mem_set hx with q | q
    · exact h.now x q
    · subst q; exact hs
  · intro p hp
    simp only [DevS.store, DevS.did, List.length_set] at hp ⊢
    rcases List.mem_append.1 hp with q | q
    · exact h.held p q
    · simp at q; subst q; exact ⟨by have := hat.1; have := hat.2; omega, hs⟩
  · simp only [DevS.store, DevS.did, wrap64]; omega
  · simp only [DevS.store, DevS.did, wrap64]; omega

/-- What a call leaves of a device: the answer, the device behind it, and that only its own blocks are turned. -/
def DevDid (b : Nat) (F : List Nat) (w : World) (v : Value) (d : DevS) (e : Ending) (w' : World) : Prop :=
  ∃ F', e = .returned v ∧ IsDev w' b F' d ∧ Only F w w' ∧ Within w F F'

theorem devAt_wrote {w w' : World} {b bn bs : Nat} {hv : Value} {d : DevS} (h : DevAt w b bn bs hv d) {at' : Int} {s : ByteArray} (hat : 0 ≤ at' ∧ at' < d.now.length) (hs : s.size = 512) (hd : d.down = false)
    {r : Int} (hr : 0 ≤ r) (hr2 : r ≤ 9223372036854775807) {e : Ending} (hw : WroteAt b bn bs d.now.length hv d.armed d.left r d.ops at'.toNat s d.held.length (heldCells d.held) (d.now.map Value.string).toArray w e w') :
    DevDid b (b :: bn :: bs :: hv.ownBlock.toList) w (.int .i64 0) (DevS.store { d with refused := r } at' s) e w' := by
  obtain ⟨hv', rfl, ho, hwi, hb', hn', hown'⟩ := hw
  have hwf : (DevS.store { d with refused := r } at' s).Wf := DevS.Wf.store (d := { d with refused := r }) ⟨h.wf.same, h.wf.few, h.wf.now, h.wf.safe, h.wf.held, h.wf.l1, h.wf.l2, hr, hr2, h.wf.o1, h.wf.o2⟩ hd hat hs
  have hbs : bs ∉ b :: bn :: hv.ownBlock.toList := by
    intro q
    simp only [List.mem_cons] at q
    rcases q with q | q | q
    · exact h.n2 q.symm
    · exact h.n3 q.symm
    · exact (h.n4 bs (by simpa using q)).2.2 rfl
  refine ⟨b :: bn :: bs :: hv'.ownBlock.toList, rfl, ⟨bn, bs, hv', ⟨hwf, ?_, ?_, ho.keeps h.safe hbs, ?_, h.n1, h.n2, h.n3, ?_⟩, rfl⟩, ?_, ?_⟩
  · rw [hb']
    simp [DevS.store, DevS.did]
  · rw [hn']
    simp [DevS.store, DevS.did, List.map_set]
  · simp only [DevS.store, DevS.did, List.length_append, List.length_cons, List.length_nil, heldCells_snoc]
    exact hown'
  · intro k hk
    rcases hwi k (by simp [hk]) with q | q
    · exact h.n4 k (by simpa using q)
    · have h1 := lt_of_block h.self
      have h2 := lt_of_block h.now
      have h3 := lt_of_block h.safe
      omega
  · exact ho.mono (by intro k hk; simp only [List.mem_cons] at hk ⊢; rcases hk with q | q | q <;> simp [q])
  · intro k hk
    simp only [List.mem_cons] at hk ⊢
    rcases hk with q | q | q | q
    · simp [q]
    · simp [q]
    · simp [q]
    · rcases hwi k q with q | q
      · simp [q]
      · exact .inr q

/-- 'Write', whatever it is asked. -/
theorem dev_write (b : Nat) (F : List Nat) (d : DevS) (at' : Int) (s : ByteArray) (w : World) (h : IsDev w b F d) (hk : d.held.length ≤ 1000000) :
    Calls Try.prog 10 #[.pointer (some ⟨b, 0, none⟩), .int .i64 at', .string s] w (DevDid b F w (.int .i64 (d.write at' s).1) (d.write at' s).2) := by
  have h' := h
  obtain ⟨bn, bs, hv, hd, rfl⟩ := h
  have stay : ∀ v : Int, (d.write at' s) = (v, d) → ∀ e w', e = .returned (.int .i64 v) ∧ w = w' → DevDid b (b :: bn :: bs :: hv.ownBlock.toList) w (.int .i64 (d.write at' s).1) (d.write at' s).2 e w' := by
    intro v hv e w' ⟨h1, h2⟩
    subst h2
    rw [hv]
    exact ⟨_, h1, h', Only.refl _ _, Within.refl _ _⟩
  by_cases hat : 0 ≤ at' ∧ at' < d.now.length
  · by_cases hs : s.size = 512
    · cases hdn : d.down
      · obtain ⟨k, hkk⟩ : ∃ k : Nat, at' = (k : Int) := ⟨at'.toNat, by omega⟩
        have hn4 : ∀ g, hv.ownBlock = some g → g ≠ b ∧ g ≠ bn := fun g hg => ⟨(hd.n4 g hg).1, (hd.n4 g hg).2.1⟩
        have hle : -9223372036854775807 ≤ d.left ∨ d.armed = false := by
          cases ha : d.armed
          · exact .inr rfl
          · left
            simp [DevS.down, ha] at hdn
            omega
        by_cases hr1 : d.refused = 1
        · have hb1 := hd.self
          rw [hr1] at hb1
          refine (write_broken b bn bs d.now.length hv d.armed d.left d.ops at' s w hb1 hd.wf.few hat hs hdn).mono ?_
          rintro e w' ⟨rfl, rfl⟩
          have hval : d.write at' s = (42, { d with refused := 0 }) := by simp [DevS.write, hat, hs, hdn, hr1]
          rw [hval]
          have ho := Only.cellAt w b 5 (.int .i64 0)
          refine ⟨_, rfl, ⟨bn, bs, hv, ⟨⟨hd.wf.same, hd.wf.few, hd.wf.now, hd.wf.safe, hd.wf.held, hd.wf.l1, hd.wf.l2, by simp, by simp, hd.wf.o1, hd.wf.o2⟩, ?_, ho.keeps hd.now (by simpa using hd.n1.symm), ho.keeps hd.safe (by simpa using hd.n2.symm), ?_, hd.n1, hd.n2, hd.n3, hd.n4⟩, rfl⟩, ho.mono (by simp), Within.refl _ _⟩
          · rw [heap_setCell_self hb1]; rfl
          · exact ownsRow_only hd.held ho (fun k hk => by simpa using (hd.n4 k hk).1)
        · have hval : d.write at' s = (0, DevS.store { d with refused := if 0 < d.refused then d.refused - 1 else d.refused } at' s) := by simp [DevS.write, hat, hs, hdn, hr1]
          rw [hval]
          subst hkk
          have hr := hd.wf.r1
          have hr2 := hd.wf.r2
          by_cases h0 : d.refused = 0
          · have hcall := write_ok b bn bs d.now.length hv d.armed d.left d.refused d.ops k s d.held.length (heldCells d.held) _ w hd.self hd.now (by simp) hd.n1 hd.wf.few hd.held hn4 (by omega) hs hdn hle hd.wf.l2 (by omega) hk
            refine hcall.mono ?_
            intro e w' hw
            rw [if_neg (by omega)]
            exact devAt_wrote hd hat hs hdn hr hr2 hw
          · have hcall := write_ok2 b bn bs d.now.length hv d.armed d.left d.refused d.ops k s d.held.length (heldCells d.held) _ w hd.self hd.now (by simp) hd.n1 hd.wf.few hd.held hn4 (by omega) hs hdn hle hd.wf.l2 (by omega) hr2 hk
            refine hcall.mono ?_
            intro e w' hw
            rw [if_pos (by omega)]
            exact devAt_wrote hd hat hs hdn (by omega) (by omega) hw
      · exact (write_down b bn bs d.now.length hv d.armed d.left d.refused d.ops at' s w hd.self hd.wf.few hat hs hdn).mono (stay 41 (by simp [DevS.write, hat, hs, hdn]))
    · exact (write_long b bn bs d.now.length hv d.armed d.left d.refused d.ops at' s w hd.self hd.wf.few hat hs).mono (stay 2 (by simp [DevS.write, hat, hs]))
  · exact (write_place b bn bs d.now.length hv d.armed d.left d.refused d.ops at' s w hd.self hd.wf.few hat).mono (stay 40 (by simp only [DevS.write]; rw [if_neg hat]))

end Go.Proofs.Ytaipjialomjhhaa
