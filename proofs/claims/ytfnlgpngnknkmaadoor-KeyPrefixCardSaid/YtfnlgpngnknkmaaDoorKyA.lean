/-
  What is proved here: the least text above all that begin with one ('afterL'): the document's After, the program's After, the parts that it joins.
  Condition: texts are no longer than a million bytes.
-/
import Derived.Test.YtfnlgpngnknkmaaDoorKyR
import Derived.Test.YtfnlgpngnknkmaaDoorShelf
import Derived.RegionTactic
import Derived.IntWalk
import Derived.Lib.SmallJoins
namespace Go.Proofs.YtfnlgpngnknkmaaDoor
open Go.RowKit Go.Proofs.YtfnlgpngnknkmaaDoor.F Go.Proofs.YtfnlgpngnknkmaaDoorW.PrintWords Go.Proofs.YtfnlgpngnknkmaaDoorW.PrintLast
set_option linter.unusedSimpArgs false
set_option linter.unusedVariables false

def afterB (s : ByteArray) : ByteArray := ⟨(afterL s.data.toList).toArray⟩
theorem afterL_nil : afterL [] = [] := rfl
theorem afterL_top (l : List UInt8) : afterL (l ++ [255]) = afterL l := by simp [afterL, afterR]
theorem afterL_up (l : List UInt8) {c : UInt8} (h : c ≠ 255) : afterL (l ++ [c]) = l ++ [c + 1] := by simp [afterL, afterR, h]
theorem take_up {s : ByteArray} {m : Nat} (h : m < s.size) : ∃ c : UInt8, s.data.toList.take (m + 1) = s.data.toList.take m ++ [c] ∧ (∀ h', s[m]'h' = c) := by
  obtain ⟨b, hb, _, hi⟩ := bt_cons h
  have := take_snoc (s := s) (n := 0) (j := m) (b := b) (t := s.data.toList.drop (m + 1)) (by rw [Nat.zero_add]; exact hb)
  rw [List.drop_zero] at this
  exact ⟨b, this, hi⟩

theorem up_byte {c : UInt8} (h : c ≠ 255) : ((c + 1).toNat : Int) = (c.toNat : Int) + 1 := by
  have h1 : c.toNat ≠ 255 := fun e => h (UInt8.toNat.inj e)
  have h2 := c.toNat_lt
  rw [UInt8.toNat_add]
  show (((c.toNat + 1) % 256 : Nat) : Int) = _
  omega

theorem text_of_take (s : ByteArray) (m : Nat) : (s.extract 0 m).data.toList = s.data.toList.take m := Lib.extract_from_zero s m

theorem conv_at {V : World} {g : Nat} {c : UInt8} (h : V.heap[g]? = some (.cells #[.int .u8 (c.toNat : Int)] 5 (0, 0))) : (convert 47 9 (.slice (some ⟨g, 0, none⟩) 1 1)).run Tryd.prog V = .ok (.string ⟨#[c]⟩) V :=
  run_bytes_text_block (P := Tryd.prog) V 47 9 5 g [c] 1 Tryd.underlying47 Tryd.undByteK Tryd.undStringK h

set_option maxRecDepth 100000 in
set_option maxHeartbeats 1000000 in
theorem ref_after_any (s : ByteArray) (w : World) (hs : s.size ≤ 1000000) : Calls Tryd.prog 19 #[.string s] w fun e w' => e = .returned (.string (afterB s)) ∧ Only [] w w' := by
  go_enter Tryd.func19, Tryd.ntmps19
  go_wp2_with fail
  go_loop [3] (fun s3 => ∃ m : Nat, m ≤ s.size ∧ s3 = .int .i64 ((m : Int) - 1) ∧ afterL (s.data.toList.take m) = afterL s.data.toList) (fun s3 => (intOf s3 + 1).toNat)
  case atStart => exact ⟨s.size, by omega, rfl, by rw [List.take_of_length_le (by rw [list_len]; omega)]⟩
  case round =>
    obtain ⟨m, hm, rfl, ha⟩ := hrel
    by_cases h0 : 0 < m
    · obtain ⟨m, rfl⟩ : ∃ k, m = k + 1 := ⟨m - 1, by omega⟩
      obtain ⟨c, hc, hidc⟩ := take_up (s := s) (m := m) (by omega)
      rw [hc] at ha
      have hcl := c.toNat_lt
      have em : (((m + 1 : Nat) : Int) - 1) = (m : Int) := by omega
      rw [em]
      clear em
      by_cases hf : c = 255
      · subst hf
        rw [afterL_top] at ha
        have HA := Lib.hid ha; clear ha hc
        go_wp2_with fail
        go_round
        case rel => exact ⟨m, by omega, rfl, HA.out⟩
        case measure => simp [intOf]
      · rw [afterL_up _ hf] at ha
        have hv : s.extract 0 m ++ ⟨#[c + 1]⟩ = afterB s := by
          apply Go.WideShapes.bytes_inj
          unfold afterB
          rw [Go.Joins.data_append, text_of_take, ← ha]
        have HV := Lib.hid hv; clear hv ha hc
        have e1 : ((c.toNat : Int) != 255) = true := by
          rw [bne_iff_ne]
          intro e
          exact hf (UInt8.toNat.inj (by show c.toNat = 255; omega))
        have e2 := up_byte hf
        have n255 : c.toNat < 255 := by
          have : c.toNat ≠ 255 := fun e => hf (UInt8.toNat.inj e)
          omega
        have hconv := conv_at (V := (w.alloc (.cells #[.int .u8 ((c + 1).toNat : Int)] 5)).drew) (g := w.heap.size) (c := c + 1) heap_alloc_self
        rw [e2] at hconv
        clear e2 hf
        go_wp2_with fail
        go_region
        all_goals
          go_wp2_with fail
          go_ret
          exact ⟨by rw [← HV.out]; rfl, (Only.alloc [] w _).trans (Only.drew [] _) (Within.refl _ _)⟩
    · obtain rfl : m = 0 := by omega
      have e : afterB s = ⟨#[]⟩ := by unfold afterB; rw [← ha]; rfl
      have E := Lib.hid e; clear e ha
      go_wp2_with fail
      go_ret
      exact ⟨by rw [E.out]; rfl, Only.refl _ _⟩

theorem joined_list (xs : List ByteArray) : (⟨(Lib.join (xs.map (·.data.toList)) (⟨#[]⟩ : ByteArray).data.toList).toArray⟩ : ByteArray) = ⟨(xs.flatMap (·.data.toList)).toArray⟩ := by
  congr 2
  show List.intercalate [] _ = _
  induction xs with
  | nil => rfl
  | cons x t ih =>
    cases t with
    | nil => simp [List.intercalate]
    | cons y t =>
      simp only [List.map_cons, List.flatMap_cons] at ih ⊢
      rw [← ih]
      simp [List.intercalate]

theorem two_drew (w : World) (a b : Obj) : ((w.alloc a).alloc b).drew.heap[w.heap.size + 1]? = some b := (two_new w a b).2

theorem size_flat (s : ByteArray) (m : Nat) (c : UInt8) (hs : s.size ≤ 1000000) : (s.extract 0 m).size + (⟨#[c]⟩ : ByteArray).size ≤ 1000000000 := by
  have : (s.extract 0 m).size = (s.data.toList.take m).length := by rw [← text_of_take, list_len]
  rw [this, List.length_take, list_len]
  show min m s.size + 1 ≤ _
  omega

/-- The parts xs lie in a block of their own: 'joined' tells them one behind the other. -/
theorem joined_any (xs : List ByteArray) (g : Nat) (w : World) (hb : w.heap[g]? = some (.cells (xs.map Value.string).toArray 9 (0, 0))) (hl : (xs.flatMap (·.data.toList)).length ≤ 1000000000) (hx : xs.length ≤ 10) :
    Calls Tryd.prog 35 #[.slice (some ⟨g, 0, none⟩) xs.length xs.length] w fun e w' => e = .returned (.string ⟨(xs.flatMap (·.data.toList)).toArray⟩) ∧ Only [] w w' := by
  have hlt := lt_of_block hb
  have HJ := Lib.hid (joined_list xs)
  have hlen : (Lib.join (xs.map (·.data.toList)) (⟨#[]⟩ : ByteArray).data.toList).length ≤ 140737488355328 := by
    have := congrArg ByteArray.size HJ.out
    have e1 : ∀ l : List UInt8, (⟨l.toArray⟩ : ByteArray).size = l.length := fun l => by show l.toArray.size = _; simp
    rw [e1, e1] at this
    omega
  have hc := fun W (hW : W = w) => Tryd.strings_Join g 0 xs.length xs ⟨#[]⟩ W (by
    subst hW
    intro j x hx
    rw [Nat.zero_add]
    exact cell_of_block hb j (by simp [hx])) (by subst hW; exact hlt) (by omega) (Nat.le_refl _) hlen
  have HC := Lib.hid (hc w rfl)
  clear hc hlen hl hb
  go_enter Tryd.func35, Tryd.ntmps35
  go_wp2_with fail
  refine HC.out.mono ?_
  rintro e w1 ⟨rfl, hbel⟩
  rw [HJ.out]
  go_wp2_with fail
  go_ret
  exact ⟨rfl, Only.of_below hbel⟩


theorem joined2 (a b : ByteArray) (g : Nat) (w : World) (hb : w.heap[g]? = some (.cells #[.string a, .string b] 9 (0, 0))) (hl : a.size + b.size ≤ 1000000000) :
    Calls Tryd.prog 35 #[.slice (some ⟨g, 0, none⟩) 2 2] w fun e w' => e = .returned (.string ⟨(a.data.toList ++ b.data.toList).toArray⟩) ∧ Only [] w w' := by
  have := joined_any [a, b] g w hb (by simp only [List.flatMap_cons, List.flatMap_nil, List.append_nil, List.length_append, list_len]; omega) (by simp)
  simpa only [List.flatMap_cons, List.flatMap_nil, List.append_nil, List.length_cons, List.length_nil] using this
theorem joined3 (a b c : ByteArray) (g : Nat) (w : World) (hb : w.heap[g]? = some (.cells #[.string a, .string b, .string c] 9 (0, 0))) (hl : a.size + (b.size + c.size) ≤ 1000000000) :
    Calls Tryd.prog 35 #[.slice (some ⟨g, 0, none⟩) 3 3] w fun e w' => e = .returned (.string ⟨(a.data.toList ++ (b.data.toList ++ c.data.toList)).toArray⟩) ∧ Only [] w w' := by
  have := joined_any [a, b, c] g w hb (by simp only [List.flatMap_cons, List.flatMap_nil, List.append_nil, List.length_append, list_len]; omega) (by simp)
  simpa only [List.flatMap_cons, List.flatMap_nil, List.append_nil, List.length_cons, List.length_nil] using this

set_option maxRecDepth 100000 in
set_option maxHeartbeats 1000000 in
theorem after_any (s : ByteArray) (w : World) (hs : s.size ≤ 1000000) : Calls Tryd.prog 18 #[.string s] w fun e w' => e = .returned (.string (afterB s)) ∧ Only [] w w' := by
  go_enter Tryd.func18, Tryd.ntmps18
  go_wp2_with fail
  go_loop [3] (fun s3 => ∃ m : Nat, m ≤ s.size ∧ s3 = .int .i64 (m : Int) ∧ afterL (s.data.toList.take m) = afterL s.data.toList) (fun s3 => (intOf s3).toNat)
  case atStart => exact ⟨s.size, by omega, rfl, by rw [List.take_of_length_le (by rw [list_len]; omega)]⟩
  case round =>
    obtain ⟨m, hm, rfl, ha⟩ := hrel
    by_cases h0 : 0 < m
    · obtain ⟨m, rfl⟩ : ∃ k, m = k + 1 := ⟨m - 1, by omega⟩
      obtain ⟨c, hc, hidc⟩ := take_up (s := s) (m := m) (by omega)
      rw [hc] at ha
      have hcl := c.toNat_lt
      have em : (((m + 1 : Nat) : Int) - 1) = (m : Int) := by omega
      by_cases hf : c = 255
      · subst hf
        rw [afterL_top] at ha
        have HA := Lib.hid ha; clear ha hc
        go_wp2_with fail
        go_round
        case rel => exact ⟨m, by omega, rfl, HA.out⟩
        case measure => simp [intOf]
      · rw [afterL_up _ hf] at ha
        have HV := Lib.hid ha; clear ha hc
        have HF := Lib.hid (size_flat s m (c + 1) hs)
        have e1 : ((c.toNat : Int) != 255) = true := by
          rw [bne_iff_ne]
          intro e
          exact hf (UInt8.toNat.inj (by show c.toNat = 255; omega))
        have e2 := up_byte hf
        have n255 : c.toNat < 255 := by
          have : c.toNat ≠ 255 := fun e => hf (UInt8.toNat.inj e)
          omega
        have hconv := conv_at (V := (w.alloc (.cells #[.int .u8 ((c + 1).toNat : Int)] 5)).drew) (g := w.heap.size) (c := c + 1) heap_alloc_self
        rw [e2] at hconv
        have E2 := Lib.hid e2
        clear e2 hf
        go_wp2_with fail
        have b0 : (0 : Int) ≤ (m : Int) := by omega
        have b1 : (m : Int) ≤ (s.size : Int) := by omega
        have ew2 : IntKind.u8.wrap ((c.toNat : Int) + 1) = (c.toNat : Int) + 1 := by rw [IntKind.wrap_u8']; omega
        have ew : IntKind.i64.wrap (m : Int) = (m : Int) := IntWalk.i64_in _ (by omega)
        go_region_with ((go_at_call 35; refine (joined2 (s.extract 0 m) ⟨#[c + 1]⟩ (w.heap.size + 1) _ (two_drew w _ _) HF.out).mono ?_; rintro e w1 ⟨rfl, o1⟩))
        all_goals
          go_wp2_with fail
          go_ret
          exact ⟨by unfold afterB; rw [← HV.out]; rfl, ((Only.of_below (((Below.refl w.heap.size w).alloc (Nat.le_refl _) _).alloc (by simp) _)).trans (Only.drew [] _) (Within.nil _ _)).trans o1 (Within.nil _ _)⟩
    · obtain rfl : m = 0 := by omega
      have e : afterB s = ⟨#[]⟩ := by unfold afterB; rw [← ha]; rfl
      have E := Lib.hid e; clear e ha
      go_wp2_with fail
      go_ret
      exact ⟨by rw [E.out]; rfl, Only.refl _ _⟩

end Go.Proofs.YtfnlgpngnknkmaaDoor
