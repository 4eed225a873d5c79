/-
  What is proved here: the plain law of a page's bytes: what 'enc' writes 'rowsM' reads; no program in sight.
  Condition: the rows are such as a page may have ('Valid').
-/
import Derived.Test.YtbikgahobkbpaaaPageE
namespace Go.Proofs.Ytbikgahobkbpaaa

/-- Rows that a page may have. -/
structure Valid (l : List RowD) : Prop where
  took : took l ≤ 512
  last : lastFree l = false
  few : ∀ r ∈ l, r.s.size ≤ 400
  free : ∀ r ∈ l, r.there = false → r.s = ⟨#[]⟩

theorem readNum_varint (n : Nat) : ∀ (i acc : Nat) (rest : List UInt8), n * 2 ^ (7 * i) < 18446744073709551616 → (0 < i → 0 < n) → readNum (varint n ++ rest) i acc = some (acc + n * 2 ^ (7 * i), i + (varint n).length) := by
  induction n using Nat.strongRecOn with
  | _ n ih =>
    intro i acc rest hb hpos
    rw [varint]
    by_cases hn : n < 128
    · rw [if_pos hn]
      have hc : (UInt8.ofNat n).toNat = n := by simp; omega
      simp only [List.cons_append, List.nil_append, readNum, hc, List.length_cons, List.length_nil]
      rw [if_neg, if_neg (by omega), if_pos hn, Nat.mod_eq_of_lt hn]
      rintro ⟨rfl, h1⟩
      have h0 := hpos (by decide)
      have : 2 * 2 ^ 63 ≤ n * 2 ^ (7 * 9) := Nat.mul_le_mul (by omega) (by decide)
      have h2 : (2 : Nat) * 2 ^ 63 = 18446744073709551616 := by decide
      omega
    · rw [if_neg hn]
      have hc : (UInt8.ofNat (n % 128 + 128)).toNat = n % 128 + 128 := by simp; omega
      simp only [List.cons_append, readNum, hc, List.length_cons]
      rw [if_neg, if_neg (by omega), if_neg (by omega)]
      · have hm : (n % 128 + 128) % 128 = n % 128 := by omega
        rw [hm, ih (n / 128) (by omega) (i + 1) _ rest (varint_room hb) (fun _ => by omega)]
        have e : n / 128 * 2 ^ (7 * (i + 1)) = n / 128 * 128 * 2 ^ (7 * i) := by
          rw [show 7 * (i + 1) = 7 + 7 * i by omega, Nat.pow_add, ← Nat.mul_assoc]
        rw [e, Nat.add_assoc acc, ← Nat.add_mul, show n % 128 + n / 128 * 128 = n by omega]
        congr 2
        omega
      · rintro ⟨rfl, _⟩
        have : 128 * 2 ^ 63 ≤ n * 2 ^ (7 * 9) := Nat.mul_le_mul (by omega) (by decide)
        have h2 : (18446744073709551616 : Nat) < 128 * 2 ^ 63 := by decide
        omega

theorem drop_append_of {α : Type} {p a b : List α} {k : Nat} (h : p.drop k = a ++ b) : p.drop (k + a.length) = b := by
  rw [← List.drop_drop, h, List.drop_left]

theorem readSizes_enc (p : ByteArray) (l : List RowD) : ∀ (k : Nat) (rest : List UInt8), (∀ r ∈ l, r.s.size ≤ 400) → p.data.toList.drop k = heads l ++ rest → readSizes p l.length k = some (l.map sizeNo, k + (heads l).length) := by
  induction l with
  | nil => intro k rest _ _; rfl
  | cons r l ih =>
    intro k rest hf h
    have hr := hf r (by simp)
    have hz : sizeNo r ≤ 401 := by unfold sizeNo; split <;> omega
    have e : heads (r :: l) = varint (sizeNo r) ++ heads l := by simp [heads]
    rw [e, List.append_assoc] at h
    have h1 : numAt p k = some (sizeNo r, (varint (sizeNo r)).length) := by
      unfold numAt
      rw [h, readNum_varint _ 0 0 _ (by simp; omega) (by omega)]
      simp
    rw [List.length_cons, readSizes_more h1 (by omega), ih _ rest (fun r hr => hf r (by simp [hr])) (drop_append_of h)]
    simp only [Option.map_some, List.map_cons, e, List.length_append]
    congr 2
    omega

theorem extract_of {p s : ByteArray} {k : Nat} {rest : List UInt8} (h : p.data.toList.drop k = s.data.toList ++ rest) : p.extract k (k + s.size) = s := by
  apply ByteArray.ext
  apply Array.toList_inj.1
  rw [ByteArray.data_extract, Array.toList_extract, List.extract_eq_take_drop, Nat.add_sub_cancel_left, h]
  rw [List.take_append_of_le_length (by show s.data.size ≤ _; simp)]
  rw [List.take_of_length_le (by show _ ≤ s.data.size; simp)]

theorem cutRows_enc (p : ByteArray) (l : List RowD) : ∀ (k : Nat) (rest : List UInt8), (∀ r ∈ l, r.there = false → r.s = ⟨#[]⟩) → p.data.toList.drop k = bodies l ++ rest → k ≤ p.size → cutRows p (l.map sizeNo) k = some l := by
  induction l with
  | nil => intro k rest _ _ _; rfl
  | cons r l ih =>
    intro k rest hf h hk
    have e : bodies (r :: l) = r.s.data.toList ++ bodies l := by simp [bodies]
    rw [e, List.append_assoc] at h
    obtain ⟨rs, rt⟩ := r
    cases rt
    · have hs : rs = ⟨#[]⟩ := hf ⟨rs, false⟩ (by simp) rfl
      subst hs
      have h' : p.data.toList.drop k = bodies l ++ rest := by simpa using h
      have := ih k rest (fun r hr => hf r (by simp [hr])) h' hk
      simp only [List.map_cons, sizeNo, Bool.false_eq_true, if_false, cutRows, this, Option.map_some]
      rfl
    · have hl : k + rs.size ≤ p.size := by
        have := congrArg List.length h
        simp only [List.length_drop, List.length_append, Array.length_toList] at this
        have e1 : p.data.size = p.size := rfl
        have e2 : rs.data.size = rs.size := rfl
        omega
      have h2 : p.data.toList.drop (k + rs.size) = bodies l ++ rest := by
        have := drop_append_of h
        simpa using this
      have := ih (k + rs.size) rest (fun r hr => hf r (by simp [hr])) h2 hl
      simp only [List.map_cons, sizeNo, if_true, cutRows, this, Option.map_some]
      rw [if_neg (by omega), extract_of h]

theorem enc_list (l : List RowD) : (enc l).data.toList = encL l ++ List.replicate (512 - (encL l).length) 0 := by simp [enc]

/-- What is written is read. -/
theorem rowsM_enc {l : List RowD} (h : Valid l) : rowsM (enc l) = some l := by
  have h1 := enc_size h.took
  have hlen := took_len h.took
  have hd0 : (enc l).data.toList.drop 0 = varint l.length ++ (heads l ++ (bodies l ++ List.replicate (512 - (encL l).length) 0)) := by
    rw [List.drop_zero, enc_list]
    simp [encL]
  have hn : numAt (enc l) 0 = some (l.length, (varint l.length).length) := by
    unfold numAt
    rw [hd0, readNum_varint _ 0 0 _ (by simp; omega) (by omega)]
    simp
  have hd1 := drop_append_of hd0
  rw [Nat.zero_add] at hd1
  have hd2 := drop_append_of hd1
  have hk := encL_length h.took
  unfold rowsM
  rw [if_pos h1, hn]
  simp only
  rw [if_neg (by omega)]
  unfold rowsM2
  rw [readSizes_enc _ l _ _ h.few hd1]
  simp only
  unfold rowsM3
  rw [cutRows_enc _ l _ _ h.free hd2 (by
    rw [h1]
    have ht := h.took
    simp only [encL, List.length_append] at hk
    omega)]
  simp only
  rw [if_neg]
  rintro (q | q | q)
  · have := h.took; omega
  · rw [h.last] at q; cases q
  · exact q rfl

theorem enc_inj {l l' : List RowD} (h : Valid l) (h' : Valid l') (e : enc l = enc l') : l = l' := by
  have h1 := rowsM_enc h
  rw [e, rowsM_enc h'] at h1
  exact (Option.some.inj h1).symm

end Go.Proofs.Ytbikgahobkbpaaa
