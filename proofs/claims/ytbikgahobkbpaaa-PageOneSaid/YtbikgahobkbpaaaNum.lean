/-
  What is proved here: 'num.Put' makes the bytes of a number ('varint'), 'num.Get' reads one ('getNum').
  Conditions: a number is a uint64; a text is no longer than the model's ints.
-/
import Derived.Test.YtbikgahobkbpaaaBytes
import Derived.Test.YtbikgahobkbpaaaSepParts
import Derived.Deep.DeepMust
import Derived.Laws.BitsAllLaws
import Derived.WalkMore
namespace Go.Proofs.Ytbikgahobkbpaaa
open Go.RowKit

/-- A number's bytes: seven bits each, 128 more in all but the last. -/
def varint (n : Nat) : List UInt8 := if n < 128 then [UInt8.ofNat n] else UInt8.ofNat (n % 128 + 128) :: varint (n / 128)
termination_by n
decreasing_by omega

theorem Try.infoByteN : (Try.prog.info? 5).map (fun i => (i.zero, i.size, i.bytes)) = some (some (.int .u8 0), 1, 1) := by kernel_rfl
theorem Try.undByteN : Try.prog.underlying 5 = some (.int .u8) := by kernel_rfl
theorem Try.undStringN : Try.prog.underlying 9 = some .string := by kernel_rfl

theorem byteCells_append (l l' : List UInt8) : byteCells (l ++ l') = byteCells l ++ byteCells l' := by simp [byteCells]

theorem more_byte (m : Nat) : bits .or .u8 ((m : Int) % 256) 128 = ((UInt8.ofNat (m % 128 + 128)).toNat : Int) := by
  have e1 : ((m : Int) % 256) = ((m % 256 : Nat) : Int) := by omega
  have e2 : (128 : Int) = ((128 : Nat) : Int) := rfl
  rw [e1, e2, u8_or_nat _ _ (by omega) (by omega)]
  have h : ∀ k : Fin 256, (k.val ||| 128) = k.val % 128 + 128 := by decide +kernel
  have h1 := h ⟨m % 256, by omega⟩
  simp only at h1
  rw [h1]
  simp
  omega

theorem varint_few {m k : Nat} (h : m * 2 ^ (7 * k) < 18446744073709551616) (hm : 128 ≤ m) : k < 10 := by
  by_cases hk : k < 10
  · exact hk
  · exfalso
    have h1 : 2 ^ 70 ≤ 2 ^ (7 * k) := Nat.pow_le_pow_right (by decide) (by omega)
    have h2 : 128 * 2 ^ 70 ≤ m * 2 ^ (7 * k) := Nat.mul_le_mul hm h1
    have h3 : (18446744073709551616 : Nat) < 128 * 2 ^ 70 := by decide
    omega

theorem varint_room {m k : Nat} (h : m * 2 ^ (7 * k) < 18446744073709551616) : m / 128 * 2 ^ (7 * (k + 1)) < 18446744073709551616 := by
  refine Nat.lt_of_le_of_lt ?_ h
  rw [show 7 * (k + 1) = 7 + 7 * k by omega, Nat.pow_add, ← Nat.mul_assoc]
  exact Nat.mul_le_mul_right _ (Nat.div_mul_le_self m 128)

set_option maxRecDepth 100000 in
set_option maxHeartbeats 1000000 in
theorem put_any (n : Nat) (w : World) (hn : n < 18446744073709551616) :
    Calls Try.prog 40 #[.int .u64 (n : Int)] w fun e w' => e = .returned (.string ⟨(varint n).toArray⟩) ∧ Only [] w w' := by
  obtain ⟨ib, IB⟩ := info_of Try.infoByteN
  go_enter Try.func40, Try.ntmps40
  go_wp2_with fail
  go_loopw [0, 3] (fun s0 s3 wr => ∃ (m : Nat) (done : List UInt8) (p : Option Addr) (q : Nat), m < 18446744073709551616 ∧ done.length ≤ 70 ∧ s0 = .int .u64 (m : Int) ∧ s3 = .slice p done.length q ∧ Sep w wr [rowRes 5 1 (.slice p done.length q) done.length (byteCells done)] ∧ done ++ varint m = varint n ∧ m * 2 ^ (7 * done.length) < 18446744073709551616) (fun s0 _ _ => (intOf s0).toNat)
  case atStart => exact ⟨n, [], none, 0, hn, by simp, rfl, rfl, (Sep.nil w).row_nil _ _, rfl, by simpa using hn⟩
  case round =>
    obtain ⟨m, done, p, q, hm, hd, rfl, rfl, hs, he, hpow⟩ := hrel
    have HS := Lib.hid hs; clear hs
    have HE := Lib.hid he; clear he
    have HP := Lib.hid hpow; clear hpow
    by_cases hlt : 128 ≤ m
    · have hb : bits .or .u8 ((m : Int) % 256) 128 = ((UInt8.ofNat (m % 128 + 128)).toNat : Int) := more_byte m
      have HB := Lib.hid hb; clear hb
      have hv : varint m = UInt8.ofNat (m % 128 + 128) :: varint (m / 128) := by rw [varint]; simp [show ¬ m < 128 by omega]
      have HV := Lib.hid hv; clear hv
      have hlen : done.length < 10 := varint_few HP.out hlt
      go_wp2_with (at_builtin; go_must (refine wpList_append_sep (e := 5) (w := w) (l := []) rfl (.tmp 6) (.tmp 10) 72 rfl ib _ 1 1 Try.underlying72 IB.out rfl (by decide) _ done.length (byteCells done) rfl rfl (by simp) rfl ?one HS.out (by unfold maxLen; omega) (by omega) ?_))
      case one => simp [Value.oneCell']
      intro p' q' w' hs'
      have HS' : Hid (Sep w w' [rowRes 5 1 (.slice p' (done.length + 1) q') (done.length + 1) (byteCells (done ++ [UInt8.ofNat (m % 128 + 128)]))]) := by
        rw [byteCells_append]
        have := hs'
        rw [HB.out] at this
        exact this
      clear hs'
      go_wp2_with fail
      go_roundw
      case rel => exact ⟨m / 128, done ++ [UInt8.ofNat (m % 128 + 128)], p', q', by omega, by simp; omega, by go_num, by simp, by simpa using HS'.out, by rw [← HE.out, HV.out]; simp, by simp only [List.length_append, List.length_cons, List.length_nil]; exact varint_room HP.out⟩
      case measure => simp [intOf]; omega
    · have hb : (m : Int) = ((UInt8.ofNat m).toNat : Int) := by simp; omega
      have HB := Lib.hid hb; clear hb
      have hv : varint m = [UInt8.ofNat m] := by rw [varint]; simp [show m < 128 by omega]
      have HV := Lib.hid hv; clear hv
      go_wp2_with (at_builtin; go_must (refine wpList_append_sep (e := 5) (w := w) (l := []) rfl (.tmp 14) (.tmp 17) 72 rfl ib _ 1 1 Try.underlying72 IB.out rfl (by decide) _ done.length (byteCells done) rfl rfl (by simp) rfl ?one HS.out (by unfold maxLen; omega) (by omega) ?_))
      case one => simp [Value.oneCell']
      intro p' q' w' hs'
      have HS' : Hid (Sep w w' [rowRes 5 1 (.slice p' (done.length + 1) q') (done.length + 1) (byteCells (done ++ [UInt8.ofNat m]))]) := by
        rw [byteCells_append]
        have := hs'
        rw [HB.out] at this
        exact this
      clear hs'
      obtain ⟨g, rfl⟩ := HS'.out.rowAt (by simp [byteCells])
      have hconv := run_bytes_text (P := Try.prog) w' 72 9 5 ⟨g, 0, none⟩ (done ++ [UInt8.ofNat m]) q' Try.underlying72 Try.undByteN Try.undStringN (fun j x hx => by
        have hadd : (⟨g, 0, none⟩ : Addr).add j = ⟨g, j, none⟩ := by unfold Addr.add; split <;> simp_all
        rw [hadd]
        exact (HS'.out.rowCell (by simp only [byteCells, List.getElem?_map, hx]; rfl)).1)
      simp only [List.length_append, List.length_cons, List.length_nil, Nat.zero_add] at hconv
      have hres : done ++ [UInt8.ofNat m] = varint n := by rw [← HE.out, HV.out]
      rw [hres] at hconv
      go_wp2_with fail
      go_ret
      exact ⟨rfl, HS'.out.old⟩

/-- The number that a list of bytes begins with, and how many bytes it has; i bytes were read, and make acc. -/
def readNum : List UInt8 → Nat → Nat → Option (Nat × Nat)
  | [], _, _ => none
  | c :: t, i, acc =>
    if i = 9 ∧ c.toNat ≠ 1 then none
    else if c.toNat = 0 ∧ 0 < i then none
    else if c.toNat < 128 then some (acc + c.toNat % 128 * 2 ^ (7 * i), i + 1)
    else readNum t (i + 1) (acc + c.toNat % 128 * 2 ^ (7 * i))

def numAt (s : ByteArray) (k : Nat) : Option (Nat × Nat) := readNum (s.data.toList.drop k) 0 0

/-- What 'Get' answers. -/
def numRes : Option (Nat × Nat) → Value
  | none => .tuple #[.int .u64 0, .int .i64 0, .bool false]
  | some (n, z) => .tuple #[.int .u64 n, .int .i64 z, .bool true]

theorem low_bits (c : UInt8) : bits .and .u8 (c.toNat : Int) 127 = ((c.toNat % 128 : Nat) : Int) := by
  have e2 : (127 : Int) = ((127 : Nat) : Int) := rfl
  have hc := c.toNat_lt
  rw [e2, u8_and_nat _ _ (by omega) (by omega)]
  have := Nat.and_two_pow_sub_one_eq_mod c.toNat 7
  simp only [Nat.reducePow, Nat.reduceSub] at this
  rw [this]

theorem acc_bound {acc x i : Nat} (h : acc < 2 ^ (7 * i)) (hx : x < 128) : acc + x * 2 ^ (7 * i) < 2 ^ (7 * (i + 1)) := by
  rw [show 7 * (i + 1) = 7 + 7 * i by omega, Nat.pow_add]
  have h2 : x * 2 ^ (7 * i) ≤ 127 * 2 ^ (7 * i) := Nat.mul_le_mul_right _ (by omega)
  have h3 : (2 ^ 7 : Nat) = 128 := by decide
  rw [h3]
  omega

theorem acc_or {acc x i : Nat} (h : acc < 2 ^ (7 * i)) (hx : acc + x * 2 ^ (7 * i) < 18446744073709551616) :
    bits .or .u64 (acc : Int) (((x : Int) * 2 ^ (7 * i)) % 18446744073709551616) = ((acc + x * 2 ^ (7 * i) : Nat) : Int) := by
  have e1 : ((x : Int) * 2 ^ (7 * i)) % 18446744073709551616 = ((x * 2 ^ (7 * i) : Nat) : Int) := by
    rw [show ((x : Int) * 2 ^ (7 * i)) = ((x * 2 ^ (7 * i) : Nat) : Int) by push_cast; rfl]
    omega
  rw [e1, u64_or_nat _ _ (by omega) (by omega)]
  rw [Nat.or_comm, ← Nat.shiftLeft_eq, ← Nat.shiftLeft_add_eq_or_of_lt h, Nat.shiftLeft_eq]
  congr 1
  omega

theorem num_or {acc i : Nat} {c : UInt8} (h : acc < 2 ^ (7 * i)) (hx : acc + c.toNat % 128 * 2 ^ (7 * i) < 18446744073709551616) :
    bits .or .u64 (acc : Int) (IntKind.u64.wrap (IntKind.u64.wrap (bits .and .u8 (c.toNat : Int) 127) * 2 ^ (7 * i))) = ((acc + c.toNat % 128 * 2 ^ (7 * i) : Nat) : Int) := by
  have w64 : ∀ n : Int, IntKind.u64.wrap n = n % 18446744073709551616 := by intro n; simp [IntKind.wrap, IntKind.bits, IntKind.signed]
  rw [low_bits, w64, w64]
  have e : ((c.toNat % 128 : Nat) : Int) % 18446744073709551616 = ((c.toNat % 128 : Nat) : Int) := by omega
  rw [e]
  exact acc_or h hx

set_option maxRecDepth 100000 in
set_option maxHeartbeats 1000000 in
theorem get_any (s : ByteArray) (k : Nat) (w : World) (hk : k ≤ s.size) (hs : s.size ≤ 1000000000000000000) :
    Calls Try.prog 46 #[.string s, .int .i64 k] w fun e w' => e = .returned (numRes (numAt s k)) ∧ w = w' := by
  have h0 : ¬ s.size < k := by omega
  go_enter Try.func46, Try.ntmps46
  go_wp2_with fail
  go_step3
  go_wp2_with fail
  go_step3
  go_wp2_with fail
  go_loopw [4, 7] (fun s4 s7 wr => ∃ (i acc : Nat), i ≤ 9 ∧ k + i ≤ s.size ∧ s4 = .int .u64 (acc : Int) ∧ s7 = .int .i64 (i : Int) ∧ w = wr ∧ acc < 2 ^ (7 * i) ∧ readNum (s.data.toList.drop (k + i)) i acc = numAt s k) (fun _ s7 _ => s.size - k - (intOf s7).toNat)
  case atStart => exact ⟨0, 0, by omega, by omega, rfl, rfl, rfl, by simp, by simp [numAt]⟩
  case round =>
    obtain ⟨i, acc, hi, hki, rfl, rfl, rfl, hacc, hrd⟩ := hrel
    have HA := Lib.hid hacc; clear hacc
    by_cases hlt : k + i < s.size
    · have hdrop : s.data.toList.drop (k + i) = s[k + i]'hlt :: s.data.toList.drop (k + i + 1) := by
        rw [List.drop_eq_getElem_cons (by simpa using hlt)]; rfl
      rw [hdrop] at hrd
      clear hdrop
      simp only [readNum] at hrd
      have hval := fun h => @num_or acc i (s[k + i]'hlt) HA.out h
      have HVAL := Lib.hid hval; clear hval
      by_cases h9 : i = 9
      · subst h9
        by_cases h1 : (s[k + 9]'hlt).toNat = 1
        · rw [if_neg (by omega), if_neg (by omega), if_pos (by omega), h1] at hrd
          have hv := HVAL.out (by rw [h1]; have := HA.out; simp only [Nat.reduceMul, Nat.reducePow] at this; omega)
          rw [h1] at hv
          simp only [Nat.reduceMul, Nat.reducePow, Nat.reduceAdd, Nat.reduceMod, Nat.one_mul] at hv hrd
          have HR := Lib.hid hrd; clear hrd
          have HV := Lib.hid hv; clear hv HVAL
          have h1' : ((s[k + 9]'hlt).toNat : Int) = 1 := by omega
          go_wp2_with fail
          rw [Exit.noGoto_ret]
          go_ret3
          refine ⟨?_, rfl⟩
          rw [← HR.out]
          have hv := HV.out
          simp only [Int.cast_ofNat_Int, Int.natCast_one, Int.reducePow] at hv
          simp only [numRes]
          rw [hv]
          rfl
        · rw [if_pos ⟨rfl, h1⟩] at hrd
          have HR := Lib.hid hrd; clear hrd HVAL
          have h1' : ¬ ((s[k + 9]'hlt).toNat : Int) = 1 := by omega
          go_wp2_with fail
          rw [Exit.noGoto_ret]
          go_ret3
          exact ⟨by rw [← HR.out]; rfl, rfl⟩
      · rw [if_neg (by omega)] at hrd
        by_cases h2 : (s[k + i]'hlt).toNat = 0 ∧ 0 < i
        · rw [if_pos h2] at hrd
          have HR := Lib.hid hrd; clear hrd HVAL
          obtain ⟨h2a, h2b⟩ := h2
          go_wp2_with fail
          rw [Exit.noGoto_ret]
          go_ret3
          exact ⟨by rw [← HR.out]; rfl, rfl⟩
        · rw [if_neg h2] at hrd
          have hb : acc + (s[k + i]'hlt).toNat % 128 * 2 ^ (7 * i) < 2 ^ (7 * (i + 1)) := acc_bound HA.out (Nat.mod_lt _ (by decide))
          have hb2 : (2 : Nat) ^ (7 * (i + 1)) ≤ 2 ^ 63 := Nat.pow_le_pow_right (by decide) (by omega)
          have hv := HVAL.out (by omega)
          have HV := Lib.hid hv; clear hv HVAL
          have HB := Lib.hid hb; clear hb hb2
          by_cases h3 : (s[k + i]'hlt).toNat < 128
          · rw [if_pos h3] at hrd
            have HR := Lib.hid hrd; clear hrd
            by_cases hz : (s[k + i]'hlt).toNat = 0
            · obtain rfl : i = 0 := by omega
              obtain rfl : acc = 0 := by have := HA.out; simpa using this
              have hz' : ((s[k + 0]'hlt).toNat : Int) = 0 := by omega
              rw [hz] at HR
              clear HV HB
              go_wp2_with fail
              rw [Exit.noGoto_ret]
              go_ret3
              exact ⟨by rw [← HR.out]; rfl, rfl⟩
            · go_wp2_with fail
              rw [Exit.noGoto_ret]
              go_ret3
              refine ⟨?_, rfl⟩
              rw [← HR.out, HV.out]
              rfl
          · rw [if_neg h3] at hrd
            have HR := Lib.hid hrd; clear hrd
            go_wp2_with fail
            go_roundw
            case rel => exact ⟨i + 1, _, by omega, by omega, by rw [HV.out], by go_num, trivial, HB.out, by rw [← Nat.add_assoc]; exact HR.out⟩
            case measure => simp [intOf]; omega
    · have hrd' : numAt s k = none := by
        rw [← hrd, List.drop_eq_nil_of_le (by simp; omega)]; rfl
      have HR := Lib.hid hrd'.symm; clear hrd hrd'
      go_wp2_with fail
      rw [Exit.noGoto_ret]
      go_ret3
      exact ⟨by rw [← HR.out]; rfl, rfl⟩

end Go.Proofs.Ytbikgahobkbpaaa
