/-
  What is proved here: the printed function of package key that reads a text ('key_text') answers as the plain law says ('readText'); what 'next' and 'Split' are to answer.
  Condition: texts are no longer than a million bytes.
-/
import Derived.Test.YtfnlgpngnknkmaaDoorFx
import Derived.Test.YtfnlgpngnknkmaaDoorKeyM
import Derived.Laws.BitsAllLaws
namespace Go.Proofs.YtfnlgpngnknkmaaDoor
open Go.RowKit Go.Proofs.YtfnlgpngnknkmaaDoor.F Go.Proofs.YtfnlgpngnknkmaaDoorW.PrintWords Go.Proofs.YtfnlgpngnknkmaaDoorW.PrintLast
set_option linter.unusedSimpArgs false
set_option linter.unusedVariables false

/-- Bytes as numbers. -/
def nums8 (l : List UInt8) : List Int := l.map fun b => (b.toNat : Int)
theorem nums8_length (l : List UInt8) : (nums8 l).length = l.length := by simp [nums8]
theorem nums8_snoc (l : List UInt8) (b : UInt8) : nums8 l ++ [(b.toNat : Int)] = nums8 (l ++ [b]) := by simp [nums8]
theorem strOfNums_bytes (l : List UInt8) : strOfNums (nums8 l) = ⟨l.toArray⟩ := by
  unfold strOfNums nums8
  rw [List.map_map]
  have h : ((fun n : Int => UInt8.ofNat n.toNat) ∘ fun b : UInt8 => (b.toNat : Int)) = id := by
    funext b
    simp
  rw [h, List.map_id]

theorem bt_cons {s : ByteArray} {n : Nat} (h : n < s.size) : ∃ b : UInt8, s.data.toList.drop n = b :: s.data.toList.drop (n + 1) ∧ bt s (n : Int) = (b.toNat : Int) ∧ (∀ h', s[n]'h' = b) := by
  refine ⟨s[n]'h, ?_, ?_, fun _ => rfl⟩
  · rw [List.drop_eq_getElem_cons (by simpa using h)]; rfl
  · unfold bt
    rw [dif_pos (by simpa using h)]
    simp

theorem w64 {x : Int} (h0 : -4611686018427387904 ≤ x) (h1 : x ≤ 4611686018427387904) : wrap64 x = x := by unfold wrap64; omega

theorem w64n (n : Nat) (h : n ≤ 4611686018427387900) : wrap64 ((n : Int) + 1) = ((n + 1 : Nat) : Int) := by unfold wrap64; omega

theorem drop_len (s : ByteArray) (n : Nat) : (s.data.toList.drop n).length = s.size - n := by
  rw [List.length_drop, Array.length_toList]; rfl
theorem drop_all {s : ByteArray} {n : Nat} (h : s.size ≤ n) : s.data.toList.drop n = [] := List.drop_of_length_le (by rw [Array.length_toList]; exact h)

theorem u8_ne {b : UInt8} {n : Nat} (hn : n < 256) (h : ¬ (b.toNat : Int) = (n : Int)) : b ≠ UInt8.ofNat n := by
  rintro rfl
  apply h
  simp
  omega
theorem u8_eq {b : UInt8} {n : Nat} (hn : n < 256) (h : (b.toNat : Int) = (n : Int)) : b = UInt8.ofNat n := by
  apply UInt8.toNat.inj
  simp
  omega

theorem readText_cons {c : UInt8} (hc : c ≠ 0) (t : List UInt8) : readText (c :: t) = (readText t).map fun r => (c :: r.1, r.2) := by
  cases t with
  | nil => simp [readText]
  | cons d t => simp only [readText, if_neg hc]
theorem readText_zero (d : UInt8) (t : List UInt8) : readText (0 :: d :: t) = if d = 1 then some ([], t) else if d = 255 then (readText t).map fun r => (0 :: r.1, r.2) else none := by
  simp only [readText, if_true]

/-- What 'text' answers. -/
def textRes (s : ByteArray) (acc : List UInt8) : Option (List UInt8 × List UInt8) → ByteArray × Int
  | none => (⟨#[]⟩, 0)
  | some (x, r) => (⟨(acc ++ x).toArray⟩, (s.size : Int) - r.length)

theorem textRes_map (s : ByteArray) (acc : List UInt8) (c : UInt8) (o : Option (List UInt8 × List UInt8)) : textRes s acc (o.map fun r => (c :: r.1, r.2)) = textRes s (acc ++ [c]) o := by
  cases o with
  | none => rfl
  | some p => simp [textRes]

theorem text_from (s : ByteArray) (hs : s.size ≤ 1000000) : ∀ (d k n : Nat) (acc : List UInt8), n ≤ s.size → s.size - n ≤ d → d < k → acc.length ≤ n →
    key_text.l0 k s (nums8 acc) (n : Int) = some (textRes s acc (readText (s.data.toList.drop n))) := by
  intro d
  induction d using Nat.strongRecOn with
  | _ d ih =>
    intro k n acc hn hd hk ha
    obtain ⟨k, rfl⟩ : ∃ m, k = m + 1 := ⟨k - 1, by omega⟩
    have hal := nums8_length acc
    by_cases hlt : n < s.size
    · obtain ⟨b, hb, hbt, _⟩ := bt_cons hlt
      simp only [key_text.l0]
      rw [if_pos (by omega), if_pos (by omega), hbt, hb, w64n n (by omega)]
      by_cases hb0 : (b.toNat : Int) = 0
      · obtain rfl : b = 0 := u8_eq (n := 0) (by omega) hb0
        rw [if_pos hb0]
        by_cases hend : n + 1 = s.size
        · rw [if_pos (by omega), drop_all (by omega)]
          rfl
        · have hlt1 : n + 1 < s.size := by omega
          obtain ⟨c, hc, hct, _⟩ := bt_cons hlt1
          rw [if_neg (by omega), if_pos (by omega), if_pos (by omega), hct, hc, readText_zero, w64n (n + 1) (by omega)]
          by_cases hc1 : (c.toNat : Int) = 1
          · obtain rfl : c = 1 := u8_eq (n := 1) (by omega) hc1
            rw [if_pos hc1, if_pos rfl, strOfNums_bytes]
            simp only [textRes, List.append_nil]
            rw [drop_len]
            congr 2
            omega
          · rw [if_neg hc1, if_neg (show ¬ c = 1 from u8_ne (n := 1) (by omega) hc1)]
            by_cases hc2 : (c.toNat : Int) = 255
            · obtain rfl : c = 255 := u8_eq (n := 255) (by omega) hc2
              rw [if_pos hc2, if_pos rfl, if_pos (by omega), textRes_map]
              have e : nums8 acc ++ [0] = nums8 (acc ++ [0]) := nums8_snoc acc 0
              rw [e]
              exact ih (d - 1) (by omega) k (n + 1 + 1) _ (by omega) (by omega) (by omega) (by simp; omega)
            · rw [if_neg hc2, if_neg (show ¬ c = 255 from u8_ne (n := 255) (by omega) hc2)]
              rfl
      · rw [if_neg hb0, if_pos (by omega), readText_cons (u8_ne (n := 0) (by omega) hb0), textRes_map, nums8_snoc]
        exact ih (d - 1) (by omega) k (n + 1) _ (by omega) (by omega) (by omega) (by simp; omega)
    · simp only [key_text.l0]
      rw [if_neg (by omega), drop_all (by omega)]
      rfl

theorem text_some (s : ByteArray) (hs : s.size ≤ 1000000) (k : Nat) (hk : s.size < k) : key_text.f k s = some (textRes s [] (readText s.data.toList)) := by
  have := text_from s hs s.size k 0 [] (by omega) (by omega) hk (by simp)
  simpa [key_text.f, nums8] using this

theorem wrapU {x : Int} (h0 : 0 ≤ x) (h1 : x < 18446744073709551616) : IntKind.u64.wrap x = x := by
  have : IntKind.u64.wrap x = x % 18446744073709551616 := by simp [IntKind.wrap, IntKind.bits, IntKind.signed]
  rw [this]; omega

theorem flip63 {y : Nat} (h : y < 9223372036854775808) : y ^^^ 9223372036854775808 = y + 9223372036854775808 := by
  have h63 : (9223372036854775808 : Nat) = 2 ^ 63 := by decide
  apply Nat.eq_of_testBit_eq
  intro i
  rw [Nat.testBit_xor, h63, Nat.testBit_two_pow, Nat.add_comm]
  rcases Nat.lt_trichotomy i 63 with hi | hi | hi
  · rw [Nat.testBit_two_pow_add_gt hi, decide_eq_false (by omega), Bool.xor_false]
  · subst hi
    rw [Nat.testBit_two_pow_add_eq]
    have : y.testBit 63 = false := Nat.testBit_lt_two_pow (by omega)
    simp [this]
  · have p1 : 2 ^ 63 ≤ 2 ^ i := Nat.pow_le_pow_right (by decide) (by omega)
    have p2 : 2 ^ 64 ≤ 2 ^ i := Nat.pow_le_pow_right (by decide) (by omega)
    have h2 : y.testBit i = false := Nat.testBit_lt_two_pow (by omega)
    have h3 : (2 ^ 63 + y).testBit i = false := Nat.testBit_lt_two_pow (by omega)
    rw [h2, h3, decide_eq_false (by omega)]; rfl

theorem top_bit {x : Nat} (h : x < 18446744073709551616) : wrap64 (Go.bits .xor .u64 (x : Int) 9223372036854775808) = (x : Int) - 9223372036854775808 := by
  have e : (9223372036854775808 : Int) = ((9223372036854775808 : Nat) : Int) := rfl
  rw [e, u64_xor_nat x 9223372036854775808 h (by decide)]
  by_cases hx : x < 9223372036854775808
  · rw [flip63 hx]; unfold wrap64; omega
  · obtain ⟨y, rfl⟩ : ∃ y, x = y + 9223372036854775808 := ⟨x - 9223372036854775808, by omega⟩
    rw [← flip63 (y := y) (by omega), Nat.xor_assoc, Nat.xor_self, Nat.xor_zero, flip63 (y := y) (by omega)]; unfold wrap64; omega

theorem byte_in {acc : Nat} {b : UInt8} (h : acc < 72057594037927936) : Go.bits .or .u64 (IntKind.u64.wrap ((acc : Int) * 256)) (IntKind.u64.wrap (b.toNat : Int)) = ((acc * 256 + b.toNat : Nat) : Int) := by
  have hb := b.toNat_lt
  rw [wrapU (by omega) (by omega), wrapU (by omega) (by omega)]
  have e : (acc : Int) * 256 = ((acc * 256 : Nat) : Int) := by omega
  rw [e, u64_or_nat _ _ (by omega) (by omega)]
  rw [nat_join 8 (acc * 256) b.toNat (by omega) (by omega)]

theorem numL_snoc (l : List UInt8) (b : UInt8) : numL (l ++ [b]) = numL l * 256 + b.toNat := by simp [numL]
theorem numL_lt (l : List UInt8) : numL l < 256 ^ l.length := by
  suffices h : ∀ (l : List UInt8) (a : Nat), l.foldl (fun a c => a * 256 + c.toNat) a + 1 ≤ (a + 1) * 256 ^ l.length by
    have := h l 0
    simp only [Nat.zero_add, Nat.one_mul] at this
    exact this
  intro l
  induction l with
  | nil => intro a; simp
  | cons c t ih =>
    intro a
    have h1 := ih (a * 256 + c.toNat)
    have h2 := c.toNat_lt
    have h3 : a * 256 + c.toNat + 1 ≤ (a + 1) * 256 := by omega
    rw [List.foldl_cons, List.length_cons, Nat.pow_succ, Nat.mul_comm (256 ^ t.length) 256, ← Nat.mul_assoc]
    exact Nat.le_trans h1 (Nat.mul_le_mul_right _ h3)
theorem take_snoc {s : ByteArray} {n j : Nat} {b : UInt8} {t : List UInt8} (h : s.data.toList.drop (n + j) = b :: t) : (s.data.toList.drop n).take (j + 1) = (s.data.toList.drop n).take j ++ [b] := by
  rw [List.take_add_one, List.getElem?_drop]
  have : s.data.toList[n + j]? = some b := by
    have := congrArg (·[0]?) h
    simpa using this
  rw [this]
  rfl

theorem pow256 {l : List UInt8} (h : l.length ≤ 7) : numL l < 72057594037927936 := by
  refine Nat.lt_of_lt_of_le (numL_lt l) ?_
  have : (256 : Nat) ^ l.length ≤ 256 ^ 7 := Nat.pow_le_pow_right (by decide) h
  exact this

/-- What 'next' answers. -/
def nextRes (s : ByteArray) : Option (ValD × List UInt8) → Int × Int × ByteArray × Int
  | none => (0, 0, ⟨#[]⟩, 0)
  | some (v, r) => (v.kind, v.n, v.s, (s.size : Int) - r.length)

theorem readText_len : ∀ (l : List UInt8) {x r : List UInt8}, readText l = some (x, r) → r.length + 2 ≤ l.length := by
  intro l x r h
  have := readText_back l x r h
  rw [this]
  simp

theorem list_len (s : ByteArray) : s.data.toList.length = s.size := by rw [Array.length_toList]; rfl

theorem nextM_len {l : List UInt8} {v : ValD} {r : List UInt8} (h : nextM l = some (v, r)) : r.length < l.length := by
  have := (nextM_back h).1
  rw [this, List.length_append]
  have h1 : 0 < (partL v).length := by
    cases e : partL v with
    | nil => exact absurd e (partL_ne v)
    | cons _ _ => simp
  omega

theorem nextM_drop {l : List UInt8} {v : ValD} {r : List UInt8} (h : nextM l = some (v, r)) : r = l.drop (l.length - r.length) := by
  have e := (nextM_back h).1
  have h2 : l.length - r.length = (partL v).length := by
    have := congrArg List.length e
    rw [List.length_append] at this
    omega
  rw [h2]
  conv => rhs; rw [e]
  rw [List.drop_left]

def sd (v : ValD) : S45 := ⟨v.kind, v.n, v.s⟩
def vd (x : S45) : ValD := ⟨x.f0, x.f1, x.f2⟩
theorem vd_sd (v : ValD) : vd (sd v) = v := rfl
theorem sd_vd (x : S45) : sd (vd x) = x := rfl

/-- What 'Split' answers. -/
def splitRes (acc : List ValD) : Option (List ValD) → List S45 × Int
  | none => ([], 11)
  | some l => ((acc ++ l).map sd, 0)

theorem splitF_succ (f : Nat) (l : List UInt8) : splitF (f + 1) l = match l with
    | [] => some []
    | c :: t => match nextM (c :: t) with
      | none => none
      | some (v, r) => (splitF f r).map (v :: ·) := by
  cases l <;> rfl

theorem splitRes_map (acc : List ValD) (v : ValD) (o : Option (List ValD)) : splitRes acc (o.map (v :: ·)) = splitRes (acc ++ [v]) o := by
  cases o with
  | none => rfl
  | some p => simp [splitRes]

/-- What 'Split' answers of a text. -/
def splitS (s : ByteArray) : List S45 × Int := if 4096 < s.size then ([], 2) else splitRes [] (splitF s.size s.data.toList)

end Go.Proofs.YtfnlgpngnknkmaaDoor
