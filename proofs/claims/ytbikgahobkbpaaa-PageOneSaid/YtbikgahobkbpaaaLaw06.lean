/-
  What is proved here: small functions of the statements on pages: Zeros, wakes.
  No condition but sizes.
-/
import Derived.Test.YtbikgahobkbpaaaPageV
namespace Go.Proofs.Ytbikgahobkbpaaa
open Go.RowKit

def zerosB (n : Nat) : ByteArray := ⟨(List.replicate n (0 : UInt8)).toArray⟩

theorem zero_cells (n : Nat) : (Array.replicate n (Value.int .u8 0)) = (byteCells (List.replicate n 0)).toArray := by simp [byteCells]

theorem zeros_any (n : Nat) (w : World) (hn : n ≤ 1000000) :
    Calls Try.prog 21 #[.int .i64 n] w fun e w' => e = .returned (.string (zerosB n)) ∧ Only [] w w' := by
  obtain ⟨ib, IB⟩ := info_of Try.infoByteN
  have hmk := run_make_all (P := Try.prog) Try.underlying72 IB.out rfl n (by omega) (by omega)
  have hconv := run_bytes_text_block (P := Try.prog) (w.alloc (.cells (Array.replicate n (.int .u8 0)) 5)) 72 9 5 w.heap.size (List.replicate n 0) n Try.underlying72 Try.undByteN Try.undStringN (by rw [zero_cells n]; exact heap_alloc_self)
  rw [List.length_replicate] at hconv
  go_enter Try.func21, Try.ntmps21
  go_wp2_with fail
  go_ret
  exact ⟨rfl, Only.alloc _ _ _⟩

theorem enc_nil : enc [] = zerosB 512 := by
  have e : encL [] = [0] := by
    show varint 0 ++ heads [] ++ bodies [] = _
    rw [varint]; rfl
  unfold enc zerosB
  rw [e]
  have h : List.replicate 512 (0 : UInt8) = 0 :: List.replicate 511 0 := List.replicate_succ
  rw [h]
  rfl

theorem Valid.nil : Valid [] := ⟨by decide, rfl, by simp, by simp⟩

theorem lastFree_append (l : List RowD) (r : RowD) : lastFree (l ++ [r]) = !r.there := by simp [lastFree]

/-- 'put' leaves a page's rows, where it answers OK. -/
theorem Valid.put {l : List RowD} (h : Valid l) {k : Nat} {s : ByteArray} (hk : k = l.length ∨ k < l.length) (h0 : (putS l k s).2 = 0) : Valid (putL l k s) ∧ (putS l k s).1 = enc (putL l k s) := by
  unfold putS at h0 ⊢
  split at h0
  · simp at h0
  · rename_i h4
    split at h0
    · simp at h0
    · rename_i h5
      rw [if_neg h4, if_neg h5]
      refine ⟨⟨by omega, ?_, ?_, ?_⟩, rfl⟩
      · unfold putL
        by_cases e : k = l.length
        · rw [if_pos e, lastFree_append]; rfl
        · rw [if_neg e]
          have hlt : k < l.length := by omega
          have hl := h.last
          unfold lastFree at hl ⊢
          rw [List.getLast?_eq_getElem?] at hl ⊢
          rw [List.length_set]
          by_cases e2 : k = l.length - 1
          · subst e2
            rw [List.getElem?_set_self hlt]; rfl
          · rw [List.getElem?_set_ne e2]
            exact hl
      · intro r hr
        unfold putL at hr
        split at hr
        · rcases List.mem_append.1 hr with q | q
          · exact h.few r q
          · simp at q; subst q; exact Nat.le_of_not_lt h4
        · rcases List.mem_or_eq_of_mem_set hr with q | q
          · exact h.few r q
          · subst q; exact Nat.le_of_not_lt h4
      · intro r hr hf
        unfold putL at hr
        split at hr
        · rcases List.mem_append.1 hr with q | q
          · exact h.free r q hf
          · simp at q; subst q; simp at hf
        · rcases List.mem_or_eq_of_mem_set hr with q | q
          · exact h.free r q hf
          · subst q; simp at hf

theorem lastFree_trim (l : List RowD) : lastFree (trim l) = false := by
  unfold trim lastFree
  rw [List.getLast?_reverse]
  cases h : (l.reverse.dropWhile fun r => !r.there) with
  | nil => rfl
  | cons r t =>
    have := List.head?_dropWhile_not (fun r : RowD => !r.there) l.reverse
    rw [h] at this
    simp at this
    simp [this]

theorem Valid.del {l : List RowD} (h : Valid l) {k : Nat} (hk : k < l.length) : Valid (delL l k) := by
  have hp := trim_prefix (l.set k RowD.free)
  have hm : ∀ r ∈ delL l k, r ∈ l.set k RowD.free := fun r hr => hp.subset hr
  refine ⟨?_, lastFree_trim _, ?_, ?_⟩
  · have h1 := took_prefix hp
    have h2 := tookOf_set l k RowD.free hk
    have hz : RowD.free.s.size = 0 := rfl
    rw [hz] at h2
    have h3 := h.took
    have h4 : Go.Proofs.Ytbikgahobkbpaaa.took (l.set k RowD.free) ≤ Go.Proofs.Ytbikgahobkbpaaa.took l := by
      unfold Go.Proofs.Ytbikgahobkbpaaa.took
      rw [List.length_set]
      omega
    exact Nat.le_trans (Nat.le_trans h1 h4) h3
  · intro r hr
    rcases List.mem_or_eq_of_mem_set (hm r hr) with q | q
    · exact h.few r q
    · subst q; exact Nat.zero_le _
  · intro r hr hf
    rcases List.mem_or_eq_of_mem_set (hm r hr) with q | q
    · exact h.free r q hf
    · subst q; rfl

theorem insertS_some {p s : ByteArray} {l : List RowD} (h : rowsM p = some l) : insertS p s = if (putS l (lowest l) s).2 = 0 then ((putS l (lowest l) s).1, (lowest l : Int), 0) else (⟨#[]⟩, 0, (putS l (lowest l) s).2) := by unfold insertS; rw [h]
theorem putP_some {p s : ByteArray} {k : Int} {l : List RowD} (h : rowsM p = some l) : putP p k s = if has l k = true then putS l k.toNat s else (⟨#[]⟩, 60) := by unfold putP; rw [h]
theorem delP_some {p : ByteArray} {k : Int} {l : List RowD} (h : rowsM p = some l) : delP p k = if has l k = true then (enc (delL l k.toNat), 0) else (⟨#[]⟩, 60) := by unfold delP; rw [h]
theorem getP_some {p : ByteArray} {k : Int} {l : List RowD} (h : rowsM p = some l) : getP p k = if has l k = true then ((l.getD k.toNat RowD.free).s, 0) else (⟨#[]⟩, 60) := by unfold getP; rw [h]
theorem freeP_some {p : ByteArray} {l : List RowD} (h : rowsM p = some l) : freeP p = freeL l := by unfold freeP; rw [h]
theorem slotsP_some {p : ByteArray} {l : List RowD} (h : rowsM p = some l) : slotsP p = slotsL l := by unfold slotsP; rw [h]; rfl
theorem goodS_some {p : ByteArray} {l : List RowD} (h : rowsM p = some l) : goodS p = true := by unfold goodS; rw [h]; rfl

def oneRow : List RowD := [⟨⟨#[114, 111, 119]⟩, true⟩]
theorem Valid.one : Valid oneRow := ⟨by decide, rfl, by decide, by decide⟩

theorem insert_one : insertS (enc []) ⟨#[114, 111, 119]⟩ = (enc oneRow, 0, 0) := by
  have h1 : putL [] (lowest []) ⟨#[114, 111, 119]⟩ = oneRow := rfl
  have h2 : putS [] (lowest []) ⟨#[114, 111, 119]⟩ = (enc oneRow, 0) := by
    unfold putS
    rw [h1, if_neg (by decide), if_neg (by decide)]
  rw [insertS_some (rowsM_enc Valid.nil), h2, if_pos rfl]
  rfl
theorem get_one : getP (enc oneRow) 0 = (⟨#[114, 111, 119]⟩, 0) := by
  have h1 : has oneRow 0 = true := by decide
  rw [getP_some (rowsM_enc Valid.one), if_pos h1]
  rfl
theorem good_one : goodS (enc oneRow) = true := goodS_some (rowsM_enc Valid.one)

set_option maxHeartbeats 1000000 in
theorem wakes_any (w : World) : Calls Try.prog 10 #[] w fun e w' => e = .returned (.bool true) ∧ Only [] w w' := by
  have he : (enc []).size = 512 := enc_size (by decide)
  have h1 : (enc oneRow).size = 512 := enc_size Valid.one.took
  have HI := Lib.hid insert_one
  have HG := Lib.hid get_one
  have HO := Lib.hid good_one
  have HN := Lib.hid enc_nil
  go_enter Try.func10, Try.ntmps10
  go_wp2_with fail
  refine (empty_any _).mono ?_
  rintro e w1 ⟨rfl, o1⟩
  have O1 := Lib.hid o1; clear o1
  go_wp2_with fail
  refine (insert_any (enc []) ⟨#[114, 111, 119]⟩ _ (by omega) (by decide)).mono ?_
  rintro e w2 ⟨rfl, o2⟩
  have O2 := Lib.hid (O1.out.trans o2 (Within.nil _ _)); clear o2
  rw [HI.out]
  go_wp2_with fail
  refine (getp_any (enc oneRow) 0 _ (by omega)).mono ?_
  rintro e w3 ⟨rfl, o3⟩
  have O3 := Lib.hid (O2.out.trans o3 (Within.nil _ _)); clear o3
  rw [HG.out]
  go_wp2_with fail
  refine (good_any (enc oneRow) _ (by omega)).mono ?_
  rintro e w4 ⟨rfl, o4⟩
  have O4 := Lib.hid (O3.out.trans o4 (Within.nil _ _)); clear o4
  rw [HO.out]
  go_wp2_with fail
  refine (empty_any _).mono ?_
  rintro e w5 ⟨rfl, o5⟩
  have O5 := Lib.hid (O4.out.trans o5 (Within.nil _ _)); clear o5
  rw [HN.out]
  go_wp2_with fail
  refine (zeros_any 512 _ (by decide)).mono ?_
  rintro e w6 ⟨rfl, o6⟩
  have O6 := Lib.hid (O5.out.trans o6 (Within.nil _ _)); clear o6
  go_wp2_with fail
  go_ret
  exact ⟨rfl, O6.out⟩

end Go.Proofs.Ytbikgahobkbpaaa
