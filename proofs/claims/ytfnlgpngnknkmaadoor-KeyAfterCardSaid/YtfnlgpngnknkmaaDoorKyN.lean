/-
  What is proved here: 'key.next' tells the value that bytes begin with ('nextM'), and how many bytes it has.
  Condition: texts are no longer than a million bytes, and not empty.
-/
import Derived.Test.YtfnlgpngnknkmaaDoorKyT
import Derived.Test.YtfnlgpngnknkmaaDoorSepParts
import Derived.Deep.DeepMust
import Derived.Lib.IndexBytes
namespace Go.Proofs.YtfnlgpngnknkmaaDoor
open Go.RowKit Go.Proofs.YtfnlgpngnknkmaaDoor.F Go.Proofs.YtfnlgpngnknkmaaDoorW.PrintWords Go.Proofs.YtfnlgpngnknkmaaDoorW.PrintLast
set_option linter.unusedSimpArgs false
set_option linter.unusedVariables false

/-- A value, as the walk has it. -/
def valV (x : S45) : Value := .agg #[.int .i64 x.f0, .int .i64 x.f1, .string x.f2]
def nextV (r : Int × Int × ByteArray × Int) : Value := .tuple #[.agg #[.int .i64 r.1, .int .i64 r.2.1, .string r.2.2.1], .int .i64 r.2.2.2]

theorem text_any (s : ByteArray) (w : World) (hs : s.size ≤ 1000000) :
    Calls Tryd.prog 43 #[.string s] w fun e w' => e = .returned (.tuple #[.string (textRes s [] (readText s.data.toList)).1, .int .i64 (textRes s [] (readText s.data.toList)).2]) ∧ Only [] w w' :=
  (key_text.calls (s.size + 1) s _ _ w (text_some s hs (s.size + 1) (by omega))).mono fun _ _ ⟨h1, h2⟩ => ⟨h1, Only.of_below h2⟩

theorem two_new (w : World) (a b : Obj) : ((w.alloc a).alloc b).heap[w.heap.size]? = some a ∧ ((w.alloc a).alloc b).heap[w.heap.size + 1]? = some b := by
  constructor
  · rw [heap_alloc_lt (by simp)]; exact heap_alloc_self
  · have := heap_alloc_self (w := w.alloc a) (o := b)
    simpa using this

theorem rest_of {s : ByteArray} (n : Nat) : (s.extract n s.size).data.toList = s.data.toList.drop n := Lib.extract_to_end s n
theorem rest_size {s : ByteArray} (n : Nat) : (s.extract n s.size).size = s.size - n := by rw [← list_len, rest_of, drop_len]

theorem text_none {s : ByteArray} (w : World) (hs : s.size ≤ 1000000) (ht : readText (s.data.toList.drop 1) = none) :
    Calls Tryd.prog 43 #[.string (s.extract 1 s.size)] w fun e w' => e = .returned (.tuple #[.string ⟨#[]⟩, .int .i64 0]) ∧ Only [] w w' := by
  have := text_any (s.extract 1 s.size) w (by rw [rest_size]; omega)
  rw [rest_of, ht] at this
  exact this
theorem text_there {s : ByteArray} (w : World) {x r : List UInt8} (hs : s.size ≤ 1000000) (ht : readText (s.data.toList.drop 1) = some (x, r)) :
    ∃ n : Nat, 2 ≤ n ∧ n + r.length + 1 = s.size ∧ x.length ≤ 1000000 ∧ Calls Tryd.prog 43 #[.string (s.extract 1 s.size)] w fun e w' => e = .returned (.tuple #[.string ⟨x.toArray⟩, .int .i64 n]) ∧ Only [] w w' := by
  have h1 := text_any (s.extract 1 s.size) w (by rw [rest_size]; omega)
  have h2 := readText_len _ ht
  have h3 := congrArg List.length (readText_back _ _ _ ht)
  rw [drop_len] at h2 h3
  have h4 : ∀ l : List UInt8, l.length ≤ (escL l).length := by
    intro l
    induction l with
    | nil => simp
    | cons c t ih =>
      simp only [escL]
      split <;> simp <;> omega
  have h5 := h4 x
  simp only [List.length_append, List.length_cons] at h3
  refine ⟨s.size - 1 - r.length, by omega, by omega, by omega, ?_⟩
  rw [rest_of, ht] at h1
  simp only [textRes, List.nil_append, rest_size] at h1
  have e : (((s.size - 1 : Nat) : Int) - (r.length : Int)) = ((s.size - 1 - r.length : Nat) : Int) := by omega
  rw [e] at h1
  exact h1

set_option maxRecDepth 100000 in
set_option maxHeartbeats 1000000 in
theorem next_blank (s : ByteArray) (w : World) (h0 : 0 < s.size) (hb : ∀ h', s[0]'h' = 0) :
    Calls Tryd.prog 34 #[.string s] w fun e w' => e = .returned (nextV (0, 0, ⟨#[]⟩, 1)) ∧ Only [] w w' := by
  go_enter Tryd.func34, Tryd.ntmps34
  go_wp2_with fail
  exact bodyPost_ret (v := nextV (0, 0, ⟨#[]⟩, 1)) (by simp [nextV, results, Tryd.results34, go_sem]) rfl ⟨rfl, Only.of_below (by repeat (first | exact Below.refl _ _ | refine Below.setCell ?_ (by simp) _ | refine Below.alloc ?_ (by simp) _))⟩

set_option maxRecDepth 100000 in
set_option maxHeartbeats 1000000 in
theorem next_bool_short (s : ByteArray) (w : World) (h0 : 0 < s.size) (hb : ∀ h', s[0]'h' = 1) (h2 : s.size < 2) :
    Calls Tryd.prog 34 #[.string s] w fun e w' => e = .returned (nextV (0, 0, ⟨#[]⟩, 0)) ∧ Only [] w w' := by
  go_enter Tryd.func34, Tryd.ntmps34
  go_wp2_with fail
  exact bodyPost_ret (v := nextV (0, 0, ⟨#[]⟩, 0)) (by simp [nextV, results, Tryd.results34, go_sem]) rfl ⟨rfl, Only.of_below (by repeat (first | exact Below.refl _ _ | refine Below.setCell ?_ (by simp) _ | refine Below.alloc ?_ (by simp) _))⟩

set_option maxRecDepth 100000 in
set_option maxHeartbeats 1000000 in
theorem next_bool_far (s : ByteArray) (w : World) (h0 : 0 < s.size) (c : UInt8) (hb : ∀ h', s[0]'h' = 1) (h2 : 1 < s.size) (hc : ∀ h', s[1]'h' = c) (h1 : 1 < c.toNat) :
    Calls Tryd.prog 34 #[.string s] w fun e w' => e = .returned (nextV (0, 0, ⟨#[]⟩, 0)) ∧ Only [] w w' := by
  go_enter Tryd.func34, Tryd.ntmps34
  go_wp2_with fail
  exact bodyPost_ret (v := nextV (0, 0, ⟨#[]⟩, 0)) (by simp [nextV, results, Tryd.results34, go_sem]) rfl ⟨rfl, Only.of_below (by repeat (first | exact Below.refl _ _ | refine Below.setCell ?_ (by simp) _ | refine Below.alloc ?_ (by simp) _))⟩

set_option maxRecDepth 100000 in
set_option maxHeartbeats 1000000 in
theorem next_bool (s : ByteArray) (w : World) (h0 : 0 < s.size) (c : UInt8) (hb : ∀ h', s[0]'h' = 1) (h2 : 1 < s.size) (hc : ∀ h', s[1]'h' = c) (h1 : c.toNat ≤ 1) :
    Calls Tryd.prog 34 #[.string s] w fun e w' => e = .returned (nextV (1, c.toNat, ⟨#[]⟩, 2)) ∧ Only [] w w' := by
  go_enter Tryd.func34, Tryd.ntmps34
  go_wp2_with fail
  exact bodyPost_ret (v := nextV (1, c.toNat, ⟨#[]⟩, 2)) (by simp [nextV, results, Tryd.results34, go_sem]) rfl ⟨rfl, Only.of_below (by repeat (first | exact Below.refl _ _ | refine Below.setCell ?_ (by simp) _ | refine Below.alloc ?_ (by simp) _))⟩

set_option maxRecDepth 100000 in
set_option maxHeartbeats 1000000 in
theorem next_int_short (s : ByteArray) (w : World) (h0 : 0 < s.size) (hb : ∀ h', s[0]'h' = 2) (h2 : s.size < 9) :
    Calls Tryd.prog 34 #[.string s] w fun e w' => e = .returned (nextV (0, 0, ⟨#[]⟩, 0)) ∧ Only [] w w' := by
  go_enter Tryd.func34, Tryd.ntmps34
  go_wp2_with fail
  exact bodyPost_ret (v := nextV (0, 0, ⟨#[]⟩, 0)) (by simp [nextV, results, Tryd.results34, go_sem]) rfl ⟨rfl, Only.of_below (by repeat (first | exact Below.refl _ _ | refine Below.setCell ?_ (by simp) _ | refine Below.alloc ?_ (by simp) _))⟩

set_option maxRecDepth 100000 in
set_option maxHeartbeats 1000000 in
theorem next_text_none (s : ByteArray) (w : World) (h0 : 0 < s.size) (hs : s.size ≤ 1000000) (hb : ∀ h', s[0]'h' = 3) (ht : readText (s.data.toList.drop 1) = none) :
    Calls Tryd.prog 34 #[.string s] w fun e w' => e = .returned (nextV (0, 0, ⟨#[]⟩, 0)) ∧ Only [] w w' := by
  have HT := Lib.hid ht; clear ht
  go_enter Tryd.func34, Tryd.ntmps34
  go_wp2_with fail
  refine (text_none _ hs HT.out).mono ?_
  rintro e w1 ⟨rfl, o1⟩
  have n1 := o1.keeps (two_new w (.cells #[.int .i64 0, .int .i64 0, .string ⟨#[]⟩] 45) (.cells #[.int .i64 3, .int .i64 0, .string ⟨#[]⟩] 45)).1 (by simp)
  have n2 := o1.keeps (two_new w (.cells #[.int .i64 0, .int .i64 0, .string ⟨#[]⟩] 45) (.cells #[.int .i64 3, .int .i64 0, .string ⟨#[]⟩] 45)).2 (by simp)
  have o2 := ((Only.of_below (((Below.refl w.heap.size w).alloc (Nat.le_refl _) _).alloc (by simp) _)).trans o1 (Within.nil _ _) : Only [] w w1).below (Nat.le_refl _) (by simp)
  have O2 := Lib.hid o2; clear o1 o2
  have c0 : w1.cell? ⟨w.heap.size, 0, none⟩ = some (.int .i64 0) := cell_of_block n1 0 rfl
  have c1 : w1.cell? ⟨w.heap.size, 1, none⟩ = some (.int .i64 0) := cell_of_block n1 1 rfl
  have c2 : w1.cell? ⟨w.heap.size, 2, none⟩ = some (.string ⟨#[]⟩) := cell_of_block n1 2 rfl
  have d0 : w1.cell? ⟨w.heap.size + 1, 0, none⟩ = some (.int .i64 3) := cell_of_block n2 0 rfl
  have d1 : w1.cell? ⟨w.heap.size + 1, 1, none⟩ = some (.int .i64 0) := cell_of_block n2 1 rfl
  have d2 : w1.cell? ⟨w.heap.size + 1, 2, none⟩ = some (.string ⟨#[]⟩) := cell_of_block n2 2 rfl
  have f0 := fun i => free_of_block n1 i
  have f1 := fun i => free_of_block n2 i
  clear n1 n2
  go_wp2_with fail
  exact bodyPost_ret (v := nextV (0, 0, ⟨#[]⟩, 0)) (by simp [nextV, results, Tryd.results34, go_sem, c0, c1, c2, d0, d1, d2, f0, f1]) rfl ⟨rfl, Only.of_below (by repeat (first | exact O2.out | refine Below.setCell ?_ (by simp) _))⟩

set_option maxRecDepth 100000 in
set_option maxHeartbeats 1000000 in
theorem next_text_far (s : ByteArray) (w : World) (h0 : 0 < s.size) (x r : List UInt8) (hs : s.size ≤ 1000000) (hb : ∀ h', s[0]'h' = 3) (ht : readText (s.data.toList.drop 1) = some (x, r)) (hx : 1024 < x.length) :
    Calls Tryd.prog 34 #[.string s] w fun e w' => e = .returned (nextV (0, 0, ⟨#[]⟩, 0)) ∧ Only [] w w' := by
  have HT := Lib.hid ht; clear ht
  go_enter Tryd.func34, Tryd.ntmps34
  go_wp2_with fail
  obtain ⟨n, n1, n2, n3, hc⟩ := text_there ((w.alloc (.cells #[.int .i64 0, .int .i64 0, .string ⟨#[]⟩] 45)).alloc (.cells #[.int .i64 3, .int .i64 0, .string ⟨#[]⟩] 45)) hs HT.out
  refine hc.mono ?_
  clear hc
  rintro e w1 ⟨rfl, o1⟩
  have n1 := o1.keeps (two_new w (.cells #[.int .i64 0, .int .i64 0, .string ⟨#[]⟩] 45) (.cells #[.int .i64 3, .int .i64 0, .string ⟨#[]⟩] 45)).1 (by simp)
  have n2 := o1.keeps (two_new w (.cells #[.int .i64 0, .int .i64 0, .string ⟨#[]⟩] 45) (.cells #[.int .i64 3, .int .i64 0, .string ⟨#[]⟩] 45)).2 (by simp)
  have o2 := ((Only.of_below (((Below.refl w.heap.size w).alloc (Nat.le_refl _) _).alloc (by simp) _)).trans o1 (Within.nil _ _) : Only [] w w1).below (Nat.le_refl _) (by simp)
  have O2 := Lib.hid o2; clear o1 o2
  have c0 : w1.cell? ⟨w.heap.size, 0, none⟩ = some (.int .i64 0) := cell_of_block n1 0 rfl
  have c1 : w1.cell? ⟨w.heap.size, 1, none⟩ = some (.int .i64 0) := cell_of_block n1 1 rfl
  have c2 : w1.cell? ⟨w.heap.size, 2, none⟩ = some (.string ⟨#[]⟩) := cell_of_block n1 2 rfl
  have d0 : w1.cell? ⟨w.heap.size + 1, 0, none⟩ = some (.int .i64 3) := cell_of_block n2 0 rfl
  have d1 : w1.cell? ⟨w.heap.size + 1, 1, none⟩ = some (.int .i64 0) := cell_of_block n2 1 rfl
  have d2 : w1.cell? ⟨w.heap.size + 1, 2, none⟩ = some (.string ⟨#[]⟩) := cell_of_block n2 2 rfl
  have f0 := fun i => free_of_block n1 i
  have f1 := fun i => free_of_block n2 i
  clear n1 n2
  have hxl : (⟨x.toArray⟩ : ByteArray).size = x.length := by show x.toArray.size = _; simp
  go_wp2_with fail
  exact bodyPost_ret (v := nextV (0, 0, ⟨#[]⟩, 0)) (by simp [nextV, results, Tryd.results34, go_sem, c0, c1, c2, d0, d1, d2, f0, f1]) rfl ⟨rfl, Only.of_below (by repeat (first | exact O2.out | refine Below.setCell ?_ (by simp) _))⟩

set_option maxRecDepth 100000 in
set_option maxHeartbeats 1000000 in
theorem next_text (s : ByteArray) (w : World) (h0 : 0 < s.size) (x r : List UInt8) (m : Nat) (hm : m + r.length + 1 = s.size) (hs : s.size ≤ 1000000) (hb : ∀ h', s[0]'h' = 3) (ht : readText (s.data.toList.drop 1) = some (x, r)) (hx : x.length ≤ 1024) :
    Calls Tryd.prog 34 #[.string s] w fun e w' => e = .returned (nextV (3, 0, ⟨x.toArray⟩, 1 + (m : Int))) ∧ Only [] w w' := by
  have HT := Lib.hid ht; clear ht
  go_enter Tryd.func34, Tryd.ntmps34
  go_wp2_with fail
  obtain ⟨n, n1, n2, n3, hc⟩ := text_there ((w.alloc (.cells #[.int .i64 0, .int .i64 0, .string ⟨#[]⟩] 45)).alloc (.cells #[.int .i64 3, .int .i64 0, .string ⟨#[]⟩] 45)) hs HT.out
  obtain rfl : m = n := by omega
  have hm2 : m ≤ 1000000 := by omega
  clear hm n2
  have em : ((m : Int) == 0) = false := by rw [beq_eq_false_iff_ne]; omega
  have ex : decide (1024 < (x.length : Int)) = false := decide_eq_false (by omega)
  refine hc.mono ?_
  clear hc
  rintro e w1 ⟨rfl, o1⟩
  have n1 := o1.keeps (two_new w (.cells #[.int .i64 0, .int .i64 0, .string ⟨#[]⟩] 45) (.cells #[.int .i64 3, .int .i64 0, .string ⟨#[]⟩] 45)).1 (by simp)
  have n2 := o1.keeps (two_new w (.cells #[.int .i64 0, .int .i64 0, .string ⟨#[]⟩] 45) (.cells #[.int .i64 3, .int .i64 0, .string ⟨#[]⟩] 45)).2 (by simp)
  have o2 := ((Only.of_below (((Below.refl w.heap.size w).alloc (Nat.le_refl _) _).alloc (by simp) _)).trans o1 (Within.nil _ _) : Only [] w w1).below (Nat.le_refl _) (by simp)
  have O2 := Lib.hid o2; clear o1 o2
  have c0 : w1.cell? ⟨w.heap.size, 0, none⟩ = some (.int .i64 0) := cell_of_block n1 0 rfl
  have c1 : w1.cell? ⟨w.heap.size, 1, none⟩ = some (.int .i64 0) := cell_of_block n1 1 rfl
  have c2 : w1.cell? ⟨w.heap.size, 2, none⟩ = some (.string ⟨#[]⟩) := cell_of_block n1 2 rfl
  have d0 : w1.cell? ⟨w.heap.size + 1, 0, none⟩ = some (.int .i64 3) := cell_of_block n2 0 rfl
  have d1 : w1.cell? ⟨w.heap.size + 1, 1, none⟩ = some (.int .i64 0) := cell_of_block n2 1 rfl
  have d2 : w1.cell? ⟨w.heap.size + 1, 2, none⟩ = some (.string ⟨#[]⟩) := cell_of_block n2 2 rfl
  have f0 := fun i => free_of_block n1 i
  have f1 := fun i => free_of_block n2 i
  clear n1 n2
  have hxl : (⟨x.toArray⟩ : ByteArray).size = x.length := by show x.toArray.size = _; simp
  go_wp2_with fail
  exact bodyPost_ret (v := nextV (3, 0, ⟨x.toArray⟩, 1 + (m : Int))) (by simp [nextV, results, Tryd.results34, go_sem, c0, c1, c2, d0, d1, d2, f0, f1]) rfl ⟨rfl, Only.of_below (by repeat (first | exact O2.out | refine Below.setCell ?_ (by simp) _))⟩

set_option maxRecDepth 100000 in
set_option maxHeartbeats 1000000 in
theorem next_int (s : ByteArray) (w : World) (h0 : 0 < s.size) (hs : s.size ≤ 1000000) (hb : ∀ h', s[0]'h' = 2) (h9 : 9 ≤ s.size) :
    Calls Tryd.prog 34 #[.string s] w fun e w' => e = .returned (nextV (2, (numL (s.data.toList.tail.take 8) : Int) - 9223372036854775808, ⟨#[]⟩, 9)) ∧ Only [] w w' := by
  go_enter Tryd.func34, Tryd.ntmps34
  go_wp2_with fail
  go_loop [6, 40] (fun s6 s40 => ∃ j : Nat, j ≤ 8 ∧ s6 = .int .u64 (numL (s.data.toList.tail.take j) : Int) ∧ s40 = .int .i64 j) (fun _ s40 => 8 - (intOf s40).toNat)
  case atStart => exact ⟨0, by omega, rfl, rfl⟩
  case round =>
    obtain ⟨j, hj, rfl, rfl⟩ := hrel
    by_cases hlt : j < 8
    · obtain ⟨b, hbd, hbt, hidx⟩ := bt_cons (s := s) (n := 1 + j) (by omega)
      have hstep := byte_in (b := b) (pow256 (l := s.data.toList.tail.take j) (Nat.le_trans (List.length_take_le _ _) (by omega)))
      rw [← numL_snoc, ← List.drop_one, ← take_snoc hbd, List.drop_one] at hstep
      have HS := Lib.hid hstep; clear hstep hbd hbt
      go_wp2_with fail
      go_round
      case rel => exact ⟨j + 1, by omega, by rw [← HS.out], by go_num⟩
      case measure => simp [intOf]; omega
    · obtain rfl : j = 8 := by omega
      have htop := top_bit (x := numL (s.data.toList.tail.take 8)) (Nat.lt_of_lt_of_le (numL_lt _) (Nat.pow_le_pow_right (n := 256) (by decide) (List.length_take_le 8 _)))
      have HT := Lib.hid htop; clear htop
      go_wp2_with fail
      have htop := HT.out
      exact bodyPost_ret (v := nextV (2, (numL (s.data.toList.tail.take 8) : Int) - 9223372036854775808, ⟨#[]⟩, 9)) (by simp [nextV, results, Tryd.results34, go_sem, htop]) rfl ⟨rfl, Only.of_below (by repeat (first | exact Below.refl _ _ | refine Below.setCell ?_ (by simp) _ | refine Below.alloc ?_ (by simp) _))⟩

set_option maxRecDepth 100000 in
set_option maxHeartbeats 1000000 in
theorem next_other (s : ByteArray) (w : World) (h0 : 0 < s.size) (b : UInt8) (hb : ∀ h', s[0]'h' = b) (b0 : 3 < b.toNat) :
    Calls Tryd.prog 34 #[.string s] w fun e w' => e = .returned (nextV (0, 0, ⟨#[]⟩, 0)) ∧ Only [] w w' := by
  have hl := b.toNat_lt
  have e0 : ((b.toNat : Int) == 0) = false := by rw [beq_eq_false_iff_ne]; omega
  have e1 : ((b.toNat : Int) == 1) = false := by rw [beq_eq_false_iff_ne]; omega
  have e2 : ((b.toNat : Int) == 2) = false := by rw [beq_eq_false_iff_ne]; omega
  have e3 : ((b.toNat : Int) == 3) = false := by rw [beq_eq_false_iff_ne]; omega
  go_enter Tryd.func34, Tryd.ntmps34
  go_wp2_with fail
  exact bodyPost_ret (v := nextV (0, 0, ⟨#[]⟩, 0)) (by simp [nextV, results, Tryd.results34, go_sem]) rfl ⟨rfl, Only.of_below (by repeat (first | exact Below.refl _ _ | refine Below.setCell ?_ (by simp) _ | refine Below.alloc ?_ (by simp) _))⟩

theorem next_any (s : ByteArray) (w : World) (h0 : 0 < s.size) (hs : s.size ≤ 1000000) :
    Calls Tryd.prog 34 #[.string s] w fun e w' => e = .returned (nextV (nextRes s (nextM s.data.toList))) ∧ Only [] w w' := by
  obtain ⟨b, hb, _, hidx⟩ := bt_cons h0
  rw [List.drop_zero] at hb
  have hbl := b.toNat_lt
  have hl1 : (s.data.toList.drop (0 + 1)).length = s.size - 1 := drop_len s 1
  rw [hb]
  simp only [nextM]
  by_cases b0 : b = 0
  · subst b0
    rw [if_pos rfl]
    have e : nextRes s (some (⟨0, 0, ⟨#[]⟩⟩, s.data.toList.drop (0 + 1))) = (0, 0, ⟨#[]⟩, 1) := by
      simp only [nextRes]
      rw [hl1]
      congr 3
      omega
    rw [e]
    exact next_blank s w h0 hidx
  · rw [if_neg b0]
    by_cases b1 : b = 1
    · subst b1
      rw [if_pos rfl]
      by_cases h2 : s.size < 2
      · rw [drop_all (by omega)]
        exact next_bool_short s w h0 hidx h2
      · have h1 : 1 < s.size := by omega
        obtain ⟨c, hc, _, hidc⟩ := bt_cons h1
        have hl2 : (s.data.toList.drop (1 + 1)).length = s.size - 2 := drop_len s 2
        rw [Nat.zero_add, hc]
        simp only
        by_cases hc1 : 1 < c.toNat
        · rw [if_pos hc1]
          exact next_bool_far s w h0 c hidx h1 hidc hc1
        · rw [if_neg hc1]
          have e : nextRes s (some (⟨1, (c.toNat : Int), ⟨#[]⟩⟩, s.data.toList.drop (1 + 1))) = (1, (c.toNat : Int), ⟨#[]⟩, 2) := by
            simp only [nextRes]
            rw [hl2]
            congr 3
            omega
          rw [e]
          exact next_bool s w h0 c hidx h1 hidc (by omega)
    · rw [if_neg b1]
      by_cases b2 : b = 2
      · subst b2
        rw [if_pos rfl, hl1]
        by_cases h9 : s.size < 9
        · rw [if_pos (by omega)]
          exact next_int_short s w h0 hidx h9
        · rw [if_neg (by omega)]
          have e : nextRes s (some (⟨2, (numL ((s.data.toList.drop (0 + 1)).take 8) : Int) - 9223372036854775808, ⟨#[]⟩⟩, (s.data.toList.drop (0 + 1)).drop 8)) = (2, (numL (s.data.toList.tail.take 8) : Int) - 9223372036854775808, ⟨#[]⟩, 9) := by
            simp only [nextRes, Nat.zero_add, List.drop_one]
            rw [List.length_drop, ← List.drop_one, drop_len]
            congr 3
            omega
          rw [e]
          exact next_int s w h0 hs hidx (by omega)
      · rw [if_neg b2]
        by_cases b3 : b = 3
        · subst b3
          rw [if_pos rfl]
          cases ht : readText (s.data.toList.drop (0 + 1)) with
          | none => exact next_text_none s w h0 hs hidx ht
          | some p =>
            obtain ⟨x, r⟩ := p
            have hlen := readText_len _ ht
            rw [hl1] at hlen
            simp only
            by_cases hx : 1024 < x.length
            · rw [if_pos hx]
              exact next_text_far s w h0 x r hs hidx ht hx
            · rw [if_neg hx]
              have e : nextRes s (some (⟨3, 0, ⟨x.toArray⟩⟩, r)) = (3, 0, ⟨x.toArray⟩, 1 + ((s.size - 1 - r.length : Nat) : Int)) := by
                simp only [nextRes]
                congr 3
                omega
              rw [e]
              exact next_text s w h0 x r (s.size - 1 - r.length) (by omega) hs hidx ht (by omega)
        · rw [if_neg b3]
          refine next_other s w h0 b hidx ?_
          have n0 : b.toNat ≠ 0 := fun e => b0 (UInt8.toNat.inj e)
          have n1 : b.toNat ≠ 1 := fun e => b1 (UInt8.toNat.inj e)
          have n2 : b.toNat ≠ 2 := fun e => b2 (UInt8.toNat.inj e)
          have n3 : b.toNat ≠ 3 := fun e => b3 (UInt8.toNat.inj e)
          omega

end Go.Proofs.YtfnlgpngnknkmaaDoor
