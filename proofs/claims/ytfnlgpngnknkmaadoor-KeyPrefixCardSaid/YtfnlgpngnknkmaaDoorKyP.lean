/-
  What is proved here: the bytes of a value ('partL'): 'eight', 'part'.
  Condition: the value is good, or none; the word that the library keeps of its longest index is there.
-/
import Derived.Test.YtfnlgpngnknkmaaDoorKyA
namespace Go.Proofs.YtfnlgpngnknkmaaDoor
open Go.RowKit Go.Proofs.YtfnlgpngnknkmaaDoor.F Go.Proofs.YtfnlgpngnknkmaaDoorW.PrintWords Go.Proofs.YtfnlgpngnknkmaaDoorW.PrintLast
set_option linter.unusedSimpArgs false
set_option linter.unusedVariables false

theorem index_up (c : UInt8) (t : List UInt8) (hc : c ≠ 0) : Lib.index (c :: t) [0] = if Lib.index t [0] = -1 then -1 else Lib.index t [0] + 1 := by
  rw [Lib.index_one, Lib.index_one]
  have h : (c == 0) = false := by rw [beq_eq_false_iff_ne]; exact hc
  simp only [Lib.indexByte, h, Bool.false_eq_true, if_false, beq_iff_eq]
theorem index_now (t : List UInt8) : Lib.index (0 :: t) [0] = 0 := by
  rw [Lib.index_one]
  simp [Lib.indexByte]

theorem replaceK_up (n : List UInt8) (k : Nat) (c : UInt8) (t : List UInt8) (hc : c ≠ 0) : Lib.replaceK [0] n k (c :: t) = c :: Lib.replaceK [0] n k t := by
  cases k with
  | zero => rfl
  | succ k =>
    by_cases h : Lib.index t [0] = -1
    · have h1 := index_up c t hc
      rw [if_pos h] at h1
      simp only [Lib.replaceK, h, h1, beq_self_eq_true, if_true]
    · have hge := Lib.index_ge t [0]
      have h1 := index_up c t hc
      rw [if_neg h] at h1
      obtain ⟨i, hi⟩ : ∃ i : Nat, Lib.index t [0] = i := ⟨(Lib.index t [0]).toNat, by omega⟩
      rw [Lib.replaceK_hit [0] n k (c :: t) (i + 1) (by rw [h1, hi]; rfl), Lib.replaceK_hit [0] n k t i hi]
      simp only [List.take_succ_cons, List.length_singleton, List.cons_append, List.append_assoc]
      rfl

theorem replaceK_now (n : List UInt8) (k : Nat) (t : List UInt8) : Lib.replaceK [0] n (k + 1) (0 :: t) = n ++ Lib.replaceK [0] n k t := by
  rw [Lib.replaceK_hit [0] n k (0 :: t) 0 (index_now t)]
  simp

theorem replaceK_esc (s : List UInt8) : Lib.replaceK [0] [0, 255] (Lib.count s [0]) s = escL s := by
  induction s with
  | nil => rw [Lib.count_one]; rfl
  | cons c t ih =>
    by_cases hc : c = 0
    · subst hc
      rw [Lib.count_cons_eq, Nat.add_comm, replaceK_now, ih]
      rfl
    · rw [Lib.count_cons_ne c 0 t hc, replaceK_up _ _ _ _ hc, ih]
      simp only [escL, if_neg hc]

theorem replace_esc (s : ByteArray) : Lib.replaceAll s.data.toList (⟨#[0]⟩ : ByteArray).data.toList (⟨#[0, 255]⟩ : ByteArray).data.toList = escL s.data.toList := by
  show Lib.replace s.data.toList [0] [0, 255] (-1) = _
  unfold Lib.replace Lib.replaceNum
  rw [if_neg (by decide), if_pos (.inl (by decide)), replaceK_esc]

/-- The word that the library keeps of its longest index is there. -/
def Lo (w : World) : Prop := ∃ m, w.cell? ⟨0, 0, none⟩ = some (.int .i64 m)
theorem Lo.size {w : World} (h : Lo w) : 0 < w.heap.size := by
  obtain ⟨m, h⟩ := h
  rcases Nat.lt_or_ge 0 w.heap.size with h' | h'
  · exact h'
  · simp [World.cell?, Array.getElem?_eq_none h'] at h
theorem Lo.only {w W : World} (h : Lo w) (ho : Only [] w W) : Lo W := by
  obtain ⟨m, hm⟩ := h
  exact ⟨m, by rw [ho.cell (Lo.size ⟨m, hm⟩) (by simp)]; exact hm⟩

theorem esc_le (l : List UInt8) : (escL l).length ≤ 2 * l.length := by
  induction l with
  | nil => simp [escL]
  | cons c t ih =>
    simp only [escL]
    split <;> simp <;> omega

theorem replace_any (s : ByteArray) (w : World) (hs : s.size ≤ 1000000) (hlo : Lo w) :
    Calls Tryd.prog 42 #[.string s, .string ⟨#[0]⟩, .string ⟨#[0, 255]⟩] w fun e w' => e = .returned (.string ⟨(escL s.data.toList).toArray⟩) ∧ Only [] w w' := by
  obtain ⟨m, hm⟩ := hlo
  refine (Tryd.strings_ReplaceAll s ⟨#[0]⟩ ⟨#[0, 255]⟩ m w (by omega) hm (by decide) ?_).mono ?_
  · have := Lib.count_le s.data.toList (⟨#[0]⟩ : ByteArray).data.toList
    rw [list_len] at this
    have h2 : Lib.countB s ⟨#[0]⟩ ≤ s.size + 1 := this
    have h3 : (⟨#[0, 255]⟩ : ByteArray).size = 2 := rfl
    rw [h3]
    omega
  · rintro e w' ⟨he, hb⟩
    rw [replace_esc] at he
    exact ⟨he, Only.of_below hb⟩

theorem eight_at (u : Nat) (j : Nat) (hj : j < 8) : (eightL u)[j]? = some (UInt8.ofNat (u / 2 ^ (56 - 8 * j))) := by
  have : j = 0 ∨ j = 1 ∨ j = 2 ∨ j = 3 ∨ j = 4 ∨ j = 5 ∨ j = 6 ∨ j = 7 := by omega
  rcases this with rfl | rfl | rfl | rfl | rfl | rfl | rfl | rfl
  all_goals first | rfl | simp [eightL]

set_option maxRecDepth 100000 in
set_option maxHeartbeats 1000000 in
theorem eight_any (u : Nat) (w : World) (hu : u < 18446744073709551616) : Calls Tryd.prog 41 #[.int .u64 (u : Int)] w fun e w' => e = .returned (.string ⟨(eightL u).toArray⟩) ∧ Only [] w w' := by
  obtain ⟨ib, IB⟩ := info_of Tryd.infoByteK
  have hmk : ∀ W : World, (Instr.makeSlice 47 (.int .i64 8) (.int .i64 8)).run Tryd.prog W = .ok (.slice (some ⟨W.heap.size, 0, none⟩) 8 8) (W.alloc (.cells (byteCells (List.replicate 8 0)).toArray 5)) := fun W => by
    have := run_make_all (P := Tryd.prog) Tryd.underlying47 IB.out rfl 8 (by omega) (by omega) W
    exact this
  go_enter Tryd.func41, Tryd.ntmps41
  go_wp2_with fail
  go_loopw [8] (fun s8 wr => ∃ (j : Nat) (l : List UInt8), j ≤ 8 ∧ l.length = 8 ∧ s8 = .int .i64 j ∧ wr.heap[w.heap.size]? = some (.cells (byteCells l).toArray 5 (0, 0)) ∧ Only [] w wr ∧ l.take j = (eightL u).take j) (fun s8 _ => 8 - (intOf s8).toNat)
  case atStart => exact ⟨0, List.replicate 8 0, by omega, rfl, rfl, heap_alloc_self, Only.alloc _ _ _, by simp⟩
  case round =>
    clear hmk
    obtain ⟨j, l, hj, hl, rfl, hb, ho, ht⟩ := hrel
    have HO := Lib.hid ho; clear ho
    have HT := Lib.hid ht; clear ht
    by_cases hjlt : j < 8
    · obtain ⟨y, hy⟩ : ∃ y, l[j]? = some y := ⟨_, List.getElem?_eq_getElem (by omega)⟩
      have c0 := cell_of_block hb j (v := .int .u8 (y.toNat : Int)) (by simp [byteCells, hy])
      have f0 := free_of_block hb j
      have HB := Lib.hid hb; clear hb
      have e0 : (56 : Int) - 8 * (j : Int) = ((56 - 8 * j : Nat) : Int) := by omega
      have e1 : min (56 - 8 * j) 64 = 56 - 8 * j := by omega
      have HE := eight_at u j hjlt
      have HE' := Lib.hid HE; clear HE hy
      go_wp2_with fail
      go_roundw
      case rel =>
        have ev : ((u : Int) / 2 ^ (56 - 8 * j) % 256) = (((UInt8.ofNat (u / 2 ^ (56 - 8 * j))).toNat : Nat) : Int) := by
          rw [UInt8.toNat_ofNat']
          push_cast
          rfl
        rw [ev]
        refine ⟨j + 1, l.set j (UInt8.ofNat (u / 2 ^ (56 - 8 * j))), by omega, by rw [List.length_set]; exact hl, by go_num, ?_, Only.of_below ((HO.out.below (Nat.le_refl _) (by simp)).setCell (Nat.le_refl _) _), ?_⟩
        · rw [heap_setCell_self HB.out, byteCells_set]
        · rw [List.take_add_one, List.take_add_one, HE'.out, ← HT.out, List.take_set_of_le (Nat.le_refl _), List.getElem?_set_self (by omega)]
      case measure => simp [intOf]; omega
    · obtain rfl : j = 8 := by omega
      have hle : l = eightL u := by have := HT.out; rwa [List.take_of_length_le (by omega), List.take_of_length_le (by exact Nat.le_refl 8)] at this
      subst hle
      have hconv := run_bytes_text_block (P := Tryd.prog) wr 47 9 5 w.heap.size (eightL u) 8 Tryd.underlying47 Tryd.undByteK Tryd.undStringK hb
      have hl8 : (eightL u).length = 8 := rfl
      rw [hl8] at hconv
      clear hl hl8 hb HT
      go_wp2_with fail
      go_ret
      exact ⟨rfl, HO.out⟩

theorem flip_top {n : Int} (h : -9223372036854775808 ≤ n ∧ n ≤ 9223372036854775807) : Go.bits .xor .u64 (IntKind.u64.wrap n) 9223372036854775808 = (((n + 9223372036854775808).toNat : Nat) : Int) := by
  have hw : IntKind.u64.wrap n = n % 18446744073709551616 := by simp [IntKind.wrap, IntKind.bits, IntKind.signed]
  have e : (9223372036854775808 : Int) = ((9223372036854775808 : Nat) : Int) := rfl
  by_cases h0 : 0 ≤ n
  · obtain ⟨y, rfl⟩ : ∃ y : Nat, n = y := ⟨n.toNat, by omega⟩
    rw [wrapU (by omega) (by omega), e, u64_xor_nat _ _ (by omega) (by decide), flip63 (by omega)]
    omega
  · obtain ⟨y, hy⟩ : ∃ y : Nat, n = (y : Int) - 9223372036854775808 := ⟨(n + 9223372036854775808).toNat, by omega⟩
    subst hy
    have e2 : ((y : Int) - 9223372036854775808) % 18446744073709551616 = ((y + 9223372036854775808 : Nat) : Int) := by omega
    rw [hw, e2, e, u64_xor_nat _ _ (by omega) (by decide), ← flip63 (y := y) (by omega), Nat.xor_assoc, Nat.xor_self, Nat.xor_zero]
    omega

theorem newest {V : World} {o : Obj} {g : Nat} (hg : g = V.heap.size) : (V.alloc o).heap[g]? = some o := by subst hg; exact heap_alloc_self
theorem sz3 (w : World) (a b : Obj) : ((w.alloc a).alloc b).heap.size = w.heap.size + 1 + 1 := by simp
theorem sz4 (w : World) (a b c : Obj) : (((w.alloc a).alloc b).alloc c).heap.size = w.heap.size + 1 + 1 + 1 := by simp
theorem old2 (w : World) (a b : Obj) : Only [] w ((w.alloc a).alloc b) := (Only.alloc [] w a).trans (Only.alloc [] _ b) (Within.nil _ _)

theorem old4 (w : World) (a b c d : Obj) : Only [] w ((((w.alloc a).alloc b).alloc c).alloc d) := (old2 w a b).trans (old2 _ c d) (Within.nil _ _)

theorem conv_lit {V : World} {g : Nat} (c : UInt8) {x : Int} (hx : x = (c.toNat : Int)) (h : V.heap[g]? = some (.cells #[.int .u8 x] 5 (0, 0))) : (convert 47 9 (.slice (some ⟨g, 0, none⟩) 1 1)).run Tryd.prog V = .ok (.string ⟨#[c]⟩) V := by
  subst hx
  exact conv_at h

def PartPost (v : ValD) (w : World) (e : Ending) (w' : World) : Prop := e = .returned (.string ⟨(partL v).toArray⟩) ∧ Only [] w w'

set_option maxRecDepth 100000 in
set_option maxHeartbeats 1000000 in
theorem part_bool (n : Int) (s : ByteArray) (w : World) (hn : n = 0 ∨ n = 1) :
    Calls Tryd.prog 27 #[valV (sd ⟨1, n, s⟩)] w (PartPost ⟨1, n, s⟩ w) := by
  simp only [valV, sd]
  have HV := Lib.hid (show partL ⟨1, n, s⟩ = [1, UInt8.ofNat n.toNat] from by unfold partL; rw [if_pos rfl])
  have hconv1 := conv_lit (V := (w.alloc (.cells #[.int .i64 1, .int .i64 n, .string s] 45)).alloc (.cells #[.int .u8 1] 5)) (g := w.heap.size + 1) (x := 1) 1 rfl (newest (by simp))
  have hconv2 := conv_lit (V := ((w.alloc (.cells #[.int .i64 1, .int .i64 n, .string s] 45)).alloc (.cells #[.int .u8 1] 5)).alloc (.cells #[.int .u8 n] 5)) (g := w.heap.size + 1 + 1) (x := n) (UInt8.ofNat n.toNat) (by rw [UInt8.toNat_ofNat']; omega) (newest (by simp))
  go_enter Tryd.func27, Tryd.ntmps27
  go_wp2_with fail
  refine (joined2 ⟨#[1]⟩ ⟨#[UInt8.ofNat n.toNat]⟩ (w.heap.size + 1 + 1 + 1) _ (newest (by simp)) (by show 1 + 1 ≤ 1000000000; decide)).mono ?_
  rintro e w1 ⟨rfl, o1⟩
  have O1 := Lib.hid ((old4 w _ _ _ _).trans o1 (Within.nil _ _)); clear o1
  go_wp2_with fail
  go_ret
  exact ⟨by rw [HV.out]; rfl, O1.out⟩

theorem part_blank (n : Int) (s : ByteArray) (w : World) :
    Calls Tryd.prog 27 #[valV (sd ⟨0, n, s⟩)] w (PartPost ⟨0, n, s⟩ w) := by
  simp only [valV, sd]
  have HV := Lib.hid (show partL ⟨0, n, s⟩ = [0] from by unfold partL; simp)
  have hconv1 := conv_lit (V := (w.alloc (.cells #[.int .i64 0, .int .i64 n, .string s] 45)).alloc (.cells #[.int .u8 0] 5)) (g := w.heap.size + 1) (x := 0) 0 rfl (newest (by simp))
  go_enter Tryd.func27, Tryd.ntmps27
  go_wp2_with fail
  go_ret
  exact ⟨by rw [HV.out]; rfl, Only.of_below (((Below.refl w.heap.size w).alloc (Nat.le_refl _) _).alloc (by simp) _)⟩

set_option maxRecDepth 100000 in
set_option maxHeartbeats 1000000 in
theorem part_int (n : Int) (s : ByteArray) (w : World) (hn : -9223372036854775808 ≤ n ∧ n ≤ 9223372036854775807) :
    Calls Tryd.prog 27 #[valV (sd ⟨2, n, s⟩)] w (PartPost ⟨2, n, s⟩ w) := by
  simp only [valV, sd]
  obtain ⟨u, hu, hub⟩ : ∃ u : Nat, (n + 9223372036854775808).toNat = u ∧ u < 18446744073709551616 := ⟨_, rfl, by omega⟩
  have hV := show partL ⟨2, n, s⟩ = 2 :: eightL (n + 9223372036854775808).toNat from by unfold partL; rw [if_neg (by simp), if_pos rfl]
  have hflip := flip_top hn
  rw [hu] at hV hflip
  have HV := Lib.hid hV
  have he := fun W => eight_any u W hub
  have hl8 : (⟨(eightL u).toArray⟩ : ByteArray).size = 8 := rfl
  clear hV hu hub hn
  have hconv1 := conv_lit (V := (w.alloc (.cells #[.int .i64 2, .int .i64 n, .string s] 45)).alloc (.cells #[.int .u8 2] 5)) (g := w.heap.size + 1) (x := 2) 2 rfl (newest (by simp))
  go_enter Tryd.func27, Tryd.ntmps27
  go_wp2_with fail
  refine (he _).mono ?_
  rintro e w0 ⟨rfl, o0⟩
  have O0 := Lib.hid ((old2 w _ _).trans o0 (Within.nil _ _)); clear o0 he hflip
  go_wp2_with fail
  refine (joined2 ⟨#[2]⟩ ⟨(eightL u).toArray⟩ w0.heap.size _ (newest rfl) (by show 1 + 8 ≤ 1000000000; decide)).mono ?_
  rintro e w1 ⟨rfl, o1⟩
  have O1 := Lib.hid ((O0.out.trans (Only.alloc [] w0 _) (Within.nil _ _)).trans o1 (Within.nil _ _)); clear o1
  go_wp2_with fail
  go_ret
  exact ⟨by rw [HV.out]; rfl, O1.out⟩

set_option maxRecDepth 100000 in
set_option maxHeartbeats 1000000 in
theorem part_text (s : ByteArray) (w : World) (hs : s.size ≤ 1024) (hlo : Lo w) :
    Calls Tryd.prog 27 #[valV (sd ⟨3, 0, s⟩)] w (PartPost ⟨3, 0, s⟩ w) := by
  simp only [valV, sd]
  have HV := Lib.hid (show partL ⟨3, 0, s⟩ = 3 :: (escL s.data.toList ++ [0, 1]) from by unfold partL; rw [if_neg (by simp), if_neg (by simp), if_pos rfl])
  have hconv1 := conv_lit (V := (w.alloc (.cells #[.int .i64 3, .int .i64 0, .string s] 45)).alloc (.cells #[.int .u8 3] 5)) (g := w.heap.size + 1) (x := 3) 3 rfl (newest (by simp))
  have HR := Lib.hid (replace_any s ((w.alloc (.cells #[.int .i64 3, .int .i64 0, .string s] 45)).alloc (.cells #[.int .u8 3] 5)) (by omega) (hlo.only (old2 w _ _)))
  have hl := esc_le s.data.toList
  rw [list_len] at hl
  have HL := Lib.hid (show (⟨#[3]⟩ : ByteArray).size + ((⟨(escL s.data.toList).toArray⟩ : ByteArray).size + (⟨#[0, 1]⟩ : ByteArray).size) ≤ 1000000000 from by
    have e : (⟨(escL s.data.toList).toArray⟩ : ByteArray).size = (escL s.data.toList).length := by show (escL s.data.toList).toArray.size = _; simp
    rw [e]
    show 1 + ((escL s.data.toList).length + 2) ≤ _
    omega)
  clear hl hlo
  go_enter Tryd.func27, Tryd.ntmps27
  go_wp2_with fail
  refine HR.out.mono ?_
  rintro e w0 ⟨rfl, o0⟩
  have O0 := Lib.hid ((old2 w _ _).trans o0 (Within.nil _ _)); clear o0 HR
  go_wp2_with fail
  refine (joined3 ⟨#[3]⟩ ⟨(escL s.data.toList).toArray⟩ ⟨#[0, 1]⟩ w0.heap.size _ (newest rfl) HL.out).mono ?_
  rintro e w1 ⟨rfl, o1⟩
  have O1 := Lib.hid ((O0.out.trans (Only.alloc [] w0 _) (Within.nil _ _)).trans o1 (Within.nil _ _)); clear o1
  go_wp2_with fail
  go_ret
  exact ⟨by rw [HV.out]; rfl, O1.out⟩

theorem part_any (v : ValD) (w : World) (hv : goodV v = true ∨ blankV v = true) (hn : -9223372036854775808 ≤ v.n ∧ v.n ≤ 9223372036854775807) (hlo : Lo w) :
    Calls Tryd.prog 27 #[valV (sd v)] w (PartPost v w) := by
  obtain ⟨k, n, s⟩ := v
  simp only at hn
  by_cases k1 : k = 1
  · subst k1
    have hg : (n = 0 ∨ n = 1) ∧ s.size = 0 := by
      rcases hv with h | h
      · simpa [goodV] using h
      · simp [blankV] at h
    exact part_bool n s w hg.1
  · by_cases k2 : k = 2
    · subst k2
      exact part_int n s w hn
    · by_cases k3 : k = 3
      · subst k3
        have hg : n = 0 ∧ s.size ≤ 1024 := by
          rcases hv with h | h
          · simpa [goodV] using h
          · simp [blankV] at h
        obtain ⟨rfl, hs⟩ := hg
        exact part_text s w hs hlo
      · have hg : k = 0 ∧ n = 0 ∧ s.size = 0 := by
          rcases hv with h | h
          · simp [goodV, k1, k2, k3] at h
          · simpa [blankV, and_assoc] using h
        obtain ⟨rfl, rfl, hs⟩ := hg
        exact part_blank 0 s w

end Go.Proofs.YtfnlgpngnknkmaaDoor
