/-
  What is proved here: the reference's 'New' makes the device of zeros, in new memory; or tells its error.
  No condition.
-/
import Derived.Test.YtaipjialomjhhaaRef04C
import Derived.Deep.RegionLaw
import Derived.Deep.AppendLies
namespace Go.Proofs.Ytaipjialomjhhaa
open Go.RowKit

theorem ref_new_arg (n : Int) (w : World) (h : n < 1 ∨ 8192 < n) :
    Calls Try.prog 21 #[.int .i64 n] w fun e w' => e = .returned (.tuple #[.pointer none, .int .i64 1]) ∧ w = w' := by
  by_cases h1 : n < 1
  · go_enter Try.func21, Try.ntmps21
    go_wp2_with fail
    go_ret2
    exact ⟨rfl, rfl⟩
  · have h2 : 8192 < n := by omega
    go_enter Try.func21, Try.ntmps21
    go_wp2_with fail
    go_ret2
    exact ⟨rfl, rfl⟩

theorem conv_zero (W : World) : (convert 68 9 (.slice (some ⟨W.heap.size, 0, none⟩) 512 512)).run Try.prog (W.alloc (.cells (Array.replicate 512 (.int .u8 0)) 5)) = .ok (.string DevS.zero) (W.alloc (.cells (Array.replicate 512 (.int .u8 0)) 5)) := by
  have h := heap_alloc_self (w := W) (o := .cells (Array.replicate 512 (.int .u8 0)) 5)
  have e : ∀ n, (Array.replicate n (Value.int .u8 0)) = (byteCells (List.replicate n 0)).toArray := by intro n; simp [byteCells]
  rw [e 512] at h
  have := run_bytes_text_block (P := Try.prog) (W.alloc (.cells (Array.replicate 512 (.int .u8 0)) 5)) 68 9 5 W.heap.size (List.replicate 512 0) 512 Try.undBytes Try.undByte Try.undString (by rw [e 512]; exact h)
  rw [List.length_replicate] at this
  exact this

theorem texts_snoc (k : Nat) (x : ByteArray) : texts (List.replicate k x) ++ [Value.string x] = texts (List.replicate (k + 1) x) := by simp [texts, List.replicate_succ']

def newCells (p : Option Addr) (k q : Nat) : Array Value := #[.slice p k q, .slice none 0 0, .slice none 0 0, .int .i64 0, .int .i64 0, .bool false, .int .i64 0]

set_option maxRecDepth 100000 in
set_option maxHeartbeats 1000000 in
theorem ref_new {w W : World} {l : List Res} (n : Nat) (h : Sep w W l) (h1 : 1 ≤ n) (h2 : n ≤ 8192) :
    Calls Try.prog 21 #[.int .i64 n] W fun e W' => ∃ b, e = .returned (.tuple #[.pointer (some ⟨b, 0, none⟩), .int .i64 0]) ∧ Sep w W' (refRes b (DevS.new n) :: l) := by
  obtain ⟨ib, IB⟩ := info_of Try.infoByte
  obtain ⟨is, IS⟩ := info_of Try.infoStr
  have hmk : ∀ w : World, (Instr.makeSlice 68 (.int .i64 512) (.int .i64 512)).run Try.prog w = .ok (.slice (some ⟨w.heap.size, 0, none⟩) 512 512) (w.alloc (.cells (Array.replicate 512 (.int .u8 0)) 5)) :=
    run_make_all (P := Try.prog) Try.undBytes IB.out rfl 512 (by omega) (by omega)
  have HMK := Lib.hid hmk; clear hmk
  have hs0 : Sep w (W.alloc (.cells (newCells none 0 0) 73)) (blkRes W.heap.size (.cells (newCells none 0 0) 73 (0, 0)) :: rowRes 9 1 (.slice none 0 0) 0 (texts []) :: l) := ((h.alloc (newCells none 0 0) 73).row_nil 9 1).up1
  have HS0 := Lib.hid hs0; clear hs0 h
  obtain ⟨b, hb⟩ : ∃ b, b = W.heap.size := ⟨_, rfl⟩
  rw [← hb] at HS0
  have HB := Lib.hid hb; clear hb
  go_enter Try.func21, Try.ntmps21
  go_wp2_with fail
  rw [← HB.out]
  go_loopw [5] (fun i wr => ∃ (k : Nat) (p : Option Addr) (q : Nat), k ≤ n ∧ i = .int .i64 k ∧ Sep w wr (blkRes b (.cells (newCells p k q) 73 (0, 0)) :: rowRes 9 1 (.slice p k q) k (texts (List.replicate k DevS.zero)) :: l)) (fun i _ => n - (intOf i).toNat)
  case atStart => exact ⟨0, none, 0, Nat.zero_le _, rfl, HS0.out⟩
  case round =>
    obtain ⟨k, p, q, hk, rfl, hs⟩ := hrel
    have HS := Lib.hid hs; clear hs HS0
    have hb1 := HS.out.blk
    by_cases hlt : k < n
    · have c0 : wr.cell? ⟨b, 0, none⟩ = some (.slice p k q) := cell_of_block hb1 0 rfl
      clear hb1
      obtain ⟨zz, hzz⟩ : ∃ zz, zz = DevS.zero := ⟨_, rfl⟩
      have HZZ := Lib.hid hzz
      have hmk := HMK.out
      have hconv : (convert 68 9 (.slice (some ⟨wr.heap.size, 0, none⟩) 512 512)).run Try.prog ((wr.alloc (.cells (Array.replicate 512 (.int .u8 0)) 5)).drew) = .ok (.string zz) ((wr.alloc (.cells (Array.replicate 512 (.int .u8 0)) 5)).drew) := by
        have := conv_zero wr.drew
        rw [hzz]
        exact this
      clear hzz
      have c1 : (wr.alloc (.cells (Array.replicate 512 (.int .u8 0)) 5)).cell? ⟨b, 0, none⟩ = some (.slice p k q) :=
        cell_of_block (HS.out.forget (.cells (Array.replicate 512 (.int .u8 0)) 5)).blk 0 rfl
      have c2 : ((wr.alloc (.cells (Array.replicate 512 (.int .u8 0)) 5)).alloc (.cells #[.string zz] 9)).cell? ⟨b, 0, none⟩ = some (.slice p k q) :=
        cell_of_block ((HS.out.forget (.cells (Array.replicate 512 (.int .u8 0)) 5)).forget (.cells #[.string zz] 9)).blk 0 rfl
      have HS2 : Hid (Sep w (((wr.alloc (.cells (Array.replicate 512 (.int .u8 0)) 5)).alloc (.cells #[.string zz] 9)).drew) (rowRes 9 1 (.slice p k q) k (texts (List.replicate k DevS.zero)) :: blkRes b (.cells (newCells p k q) 73 (0, 0)) :: l)) :=
        (((HS.out.forget (.cells (Array.replicate 512 (.int .u8 0)) 5)).forget (.cells #[.string zz] 9)).drew).up1
      have HNB : Hid ((((wr.alloc (.cells (Array.replicate 512 (.int .u8 0)) 5)).alloc (.cells #[.string zz] 9)).drew).heap[wr.heap.size + 1]? = some (.cells #[.string zz] 9 (0, 0))) := by
        have := heap_alloc_self (w := wr.alloc (.cells (Array.replicate 512 (.int .u8 0)) 5)) (o := .cells #[.string zz] 9)
        rw [show (wr.alloc (.cells (Array.replicate 512 (.int .u8 0)) 5)).heap.size = wr.heap.size + 1 from by simp] at this
        exact this
      go_wp2_with fail
      go_region_law (first | (refine step_append_sep (w := w) (e := 9) rfl (.tmp 23) (.tmp 26) 56 rfl is _ 1 16 Try.undStrings IS.out rfl (by decide) _ k (texts (List.replicate k DevS.zero)) rfl rfl HNB.out rfl (by intro u hu; simp at hu; subst hu; rfl) HS2.out (by unfold maxLen; omega) (by omega) ?_; intro p' q' w5 hs5; have e5 : w5.cell? ⟨b, 0, none⟩ = some (.slice p k q) := cell_of_block hs5.up1.blk 0 rfl; have f5 := free_of_block hs5.up1.blk 0))
      all_goals
        have HR : Hid (Sep w (w5.setCell ⟨b, 0, none⟩ (.slice p' (k + 1) q')) (blkRes b (.cells (newCells p' (k + 1) q') 73 (0, 0)) :: rowRes 9 1 (.slice p' (k + 1) q') (k + 1) (texts (List.replicate (k + 1) DevS.zero)) :: l)) := by
          have s1 := hs5.up1.store 0 (.slice p' (k + 1) q')
          rw [HZZ.out, show (#[Value.string DevS.zero]).toList = [Value.string DevS.zero] from rfl, texts_snoc] at s1
          exact s1
        clear hs5 hconv c0 c1 c2 hmk
        go_wp2_with fail
        go_roundw
        case rel => exact ⟨k + 1, p', q', by omega, by go_num, HR.out⟩
        case measure => simp [intOf]; omega
    · have hge : n ≤ k := by omega
      have hkn : k = n := by omega
      have HKN := Lib.hid hkn; clear hkn
      have hW : (wr.alloc (.cells #[] 9)).cell? ⟨b, 0, none⟩ = some (.slice p k q) := cell_of_block (HS.out.forget (.cells #[] 9)).blk 0 rfl
      have HSRC := Lib.hid (row_src HS.out.up1.row (Only.alloc [] wr (.cells #[] 9)))
      have HM := Lib.hid (HS.out.row_made 9 1)
      clear hb1
      go_wp2_with (at_builtin; go_must (refine wpList_append_src (w := w) (e := 9) rfl (.tmp 31) (.tmp 35) 56 rfl is _ 1 16 Try.undStrings IS.out rfl (by decide) _ 0 [] rfl p k q (texts (List.replicate k DevS.zero)) rfl (by simp [texts]) HSRC.out (texts_one (List.replicate k DevS.zero)) HM.out (by unfold maxLen; omega) (by omega) ?_))
      intro p' q' w5 hs5
      have hs6 := hs5.up1
      have c1 : w5.cell? ⟨b, 1, none⟩ = some (.slice none 0 0) := cell_of_block hs6.blk 1 rfl
      have f1 := free_of_block hs6.blk 1
      have hend : Sep w (w5.setCell ⟨b, 1, none⟩ (.slice p' k q')) (refRes b (DevS.new n) :: l) := by
        have s1 := ((hs6.store 1 (.slice p' k q')).row_nil 75 2).dn3
        have hwf : (DevS.new n).Wf := by
          have hall : ∀ s ∈ (DevS.new n).now, s.size = 512 := by intro s hs; rw [List.eq_of_mem_replicate hs]; exact zero_size
          exact ⟨rfl, by simpa [DevS.new] using h2, hall, hall, by simp [DevS.new], by simp [DevS.new], by simp [DevS.new], by simp [DevS.new], by simp [DevS.new], by simp [DevS.new], by simp [DevS.new]⟩
        refine Sep.close ⟨p, q, p', q', none, 0⟩ ?_ ⟨hwf, rfl⟩
        have e := HKN.out
        subst e
        have hl1 : (DevS.new k).now.length = k := by simp [DevS.new]
        have hl2 : (DevS.new k).safe.length = k := by simp [DevS.new]
        simp only [refParts, refCells]
        rw [hl1, hl2]
        exact s1.perm (.cons _ (.swap _ _ _))
      have HE := Lib.hid hend; clear hend hs5 hs6
      go_wp2_with fail
      go_ret2
      exact ⟨b, rfl, HE.out⟩
end Go.Proofs.Ytaipjialomjhhaa
