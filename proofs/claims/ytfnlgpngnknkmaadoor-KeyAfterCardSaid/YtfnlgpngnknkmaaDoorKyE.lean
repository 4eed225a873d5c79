/-
  What is proved here: the printed functions of the document's answer and of the statements answer as the plain law says: Good, Blank, one, Make, large, Values.
  Conditions: numbers are int64, lists are short.
-/
import Derived.Test.YtfnlgpngnknkmaaDoorKyK
namespace Go.Proofs.YtfnlgpngnknkmaaDoor
open Go.RowKit Go.Proofs.YtfnlgpngnknkmaaDoor.F Go.Proofs.YtfnlgpngnknkmaaDoorW.PrintWords Go.Proofs.YtfnlgpngnknkmaaDoorW.PrintLast Go.Proofs.YtfnlgpngnknkmaaDoorW.PrintMore
set_option linter.unusedSimpArgs false
set_option linter.unusedVariables false

theorem ref_good (k n : Int) (s : ByteArray) : hedgerowref02_Good.f k n s = some (goodV ⟨k, n, s⟩) := by
  unfold hedgerowref02_Good.f goodV
  simp only [no_bytes]
  by_cases k1 : k = 1
  · rw [if_pos k1, if_pos k1]
    by_cases h0 : n = 0
    · subst h0; simp
    · by_cases h1 : n = 1
      · subst h1; simp
      · have e0 : (n == 0) = false := by rw [beq_eq_false_iff_ne]; exact h0
        have e1 : (n == 1) = false := by rw [beq_eq_false_iff_ne]; exact h1
        rw [if_neg h0, if_neg h1, e0, e1]; rfl
  · rw [if_neg k1, if_neg k1]
    by_cases k2 : k = 2
    · rw [if_pos k2, if_pos k2]
    · rw [if_neg k2, if_neg k2]
      by_cases k3 : k = 3
      · rw [if_pos k3, if_pos k3]
        by_cases h0 : n = 0
        · subst h0
          rw [if_pos rfl]
          simp only [beq_self_eq_true, Bool.true_and]
          congr 1
          rw [Bool.eq_iff_iff, decide_eq_true_eq, decide_eq_true_eq]
          omega
        · have e0 : (n == 0) = false := by rw [beq_eq_false_iff_ne]; exact h0
          rw [if_neg h0, e0]; rfl
      · rw [if_neg k3, if_neg k3]

theorem ref_blank (k n : Int) (s : ByteArray) : hedgerowref02_Blank.f k n s = some (blankV ⟨k, n, s⟩) := by
  unfold hedgerowref02_Blank.f blankV
  simp only [no_bytes]
  by_cases k0 : k = 0
  · subst k0
    by_cases n0 : n = 0
    · subst n0; simp
    · have e0 : (n == 0) = false := by rw [beq_eq_false_iff_ne]; exact n0
      rw [if_pos rfl, if_neg n0, e0]; simp
  · have e0 : (k == 0) = false := by rw [beq_eq_false_iff_ne]; exact k0
    rw [if_neg k0, e0]; rfl

theorem nums8_app (l l' : List UInt8) : nums8 (l ++ l') = nums8 l ++ nums8 l' := by simp [nums8]

theorem w64m (n : Nat) (h : n ≤ 4611686018427387900) : wrap64 (((n + 1 : Nat) : Int) - 1) = (n : Int) := by unfold wrap64; omega

theorem shr_byte (u m : Nat) (hm : m < 8) : shr .u64 (u : Int) ((8 * m : Nat) : Int) % 256 = (((UInt8.ofNat (u / 2 ^ (8 * m))).toNat : Nat) : Int) := by
  unfold shr
  rw [UInt8.toNat_ofNat', Int.toNat_natCast]
  have hmin : min (8 * m) IntKind.u64.bits = 8 * m := Nat.min_eq_left (by show 8 * m ≤ 64; omega)
  rw [hmin, Int.natCast_emod, Int.natCast_ediv, Int.natCast_pow]
  rfl
theorem w64e (m : Nat) (hm : m < 8) : wrap64 (8 * (m : Int)) = ((8 * m : Nat) : Int) := by unfold wrap64; omega
theorem w64f (m : Nat) (hm : m < 8) : wrap64 ((m : Int) - 1) = (m : Int) - 1 := by unfold wrap64; omega

theorem one_down (u : Nat) (hu : u < 18446744073709551616) : ∀ (m k : Nat) (acc : List UInt8), m ≤ 8 → acc.length + m ≤ 100 → m < k →
    hedgerowref03_one.l0 k (nums8 acc) (u : Int) ((m : Int) - 1) = some (nums8 (acc ++ (eightL u).drop (8 - m))) := by
  intro m
  induction m with
  | zero =>
    intro k acc _ _ hk
    obtain ⟨k, rfl⟩ : ∃ j, k = j + 1 := ⟨k - 1, by omega⟩
    simp only [hedgerowref03_one.l0]
    rw [if_neg (by decide)]
    simp [eightL]
  | succ m ih =>
    intro k acc hm ha hk
    obtain ⟨k, rfl⟩ : ∃ j, k = j + 1 := ⟨k - 1, by omega⟩
    have hl := nums8_length acc
    have e0 : (((m + 1 : Nat) : Int) - 1) = (m : Int) := by omega
    simp only [hedgerowref03_one.l0]
    rw [e0, if_pos (by omega), w64e m (by omega), wrapU (by omega) (by omega), if_pos (by omega), if_pos (by omega), w64f m (by omega), shr_byte u m (by omega), nums8_snoc]
    rw [ih k (acc ++ [UInt8.ofNat (u / 2 ^ (8 * m))]) (by omega) (by rw [List.length_append, List.length_singleton]; omega) (by omega)]
    congr 2
    have h8 : (8 - (m + 1)) = 7 - m := by omega
    have h9 : (8 - m) = 7 - m + 1 := by omega
    have hget := eight_at u (7 - m) (by omega)
    have h10 : 56 - 8 * (7 - m) = 8 * m := by omega
    rw [h10] at hget
    obtain ⟨hlt, hge⟩ := List.getElem?_eq_some_iff.1 hget
    rw [h8, h9, List.drop_eq_getElem_cons hlt, hge]
    simp

theorem one_text (k0 n0 : Int) (s : ByteArray) (hs : s.size ≤ 1000000) : ∀ (d k n : Nat) (acc : List UInt8), n ≤ s.size → s.size - n = d → acc.length ≤ 10 + 2 * n → d < k →
    hedgerowref03_one.l1 k (nums8 acc) (n : Int) k0 n0 s = some (nums8 (acc ++ (escL (s.data.toList.drop n) ++ [0, 1]))) := by
  intro d
  induction d with
  | zero =>
    intro k n acc hn hd ha hk
    obtain ⟨k, rfl⟩ : ∃ j, k = j + 1 := ⟨k - 1, by omega⟩
    have hl := nums8_length acc
    simp only [hedgerowref03_one.l1]
    rw [if_neg (by omega), drop_all (by omega)]
    simp only [Option.bind_some]
    rw [if_pos (by simp; omega)]
    simp [nums8, escL]
  | succ d ih =>
    intro k n acc hn hd ha hk
    obtain ⟨k, rfl⟩ : ∃ j, k = j + 1 := ⟨k - 1, by omega⟩
    have hl := nums8_length acc
    obtain ⟨b, hb, hbt, _⟩ := bt_cons (s := s) (n := n) (by omega)
    simp only [hedgerowref03_one.l1]
    rw [if_pos (by omega), if_pos (by omega), if_pos (by omega), hbt, w64n n (by omega), hb]
    simp only [Option.bind_some]
    by_cases b0 : (b.toNat : Int) = 0
    · obtain rfl : b = 0 := u8_eq (n := 0) (by omega) b0
      rw [if_pos b0, nums8_snoc]
      have hl2 := nums8_length (acc ++ [0])
      rw [List.length_append, List.length_singleton] at hl2
      rw [if_pos (by omega)]
      have e : nums8 (acc ++ [0]) ++ [255] = nums8 (acc ++ [0] ++ [255]) := nums8_snoc (acc ++ [0]) 255
      rw [e, ih k (n + 1) _ (by omega) (by omega) (by simp; omega) (by omega)]
      simp [escL]
    · have hne : b ≠ 0 := u8_ne (n := 0) (by omega) b0
      rw [if_neg b0, nums8_snoc, ih k (n + 1) _ (by omega) (by omega) (by simp; omega) (by omega)]
      simp [escL, hne]

theorem ref_one (v : ValD) (hv : goodV v = true ∨ blankV v = true) (hn : -9223372036854775808 ≤ v.n ∧ v.n ≤ 9223372036854775807) (k : Nat) (hk : v.s.size + 10 < k) :
    hedgerowref03_one.f k v.kind v.n v.s = some (nums8 (partL v)) := by
  obtain ⟨kd, n, s⟩ := v
  simp only at hn hk
  unfold hedgerowref03_one.f partL
  simp only [Option.bind_some]
  by_cases k1 : kd = 1
  · subst k1
    have hg : (n = 0 ∨ n = 1) ∧ s.size = 0 := by
      rcases hv with h | h
      · simpa [goodV] using h
      · simp [blankV] at h
    rw [if_pos rfl, if_pos rfl, if_pos (by simp)]
    rcases hg.1 with rfl | rfl <;> rfl
  · rw [if_neg k1, if_neg k1]
    by_cases k2 : kd = 2
    · subst k2
      rw [if_pos rfl, if_pos rfl, flip_top hn]
      have h := one_down (n + 9223372036854775808).toNat (by omega) 8 k [2] (by omega) (by simp) (by omega)
      exact h
    · rw [if_neg k2, if_neg k2]
      by_cases k3 : kd = 3
      · subst k3
        have hs : s.size ≤ 1024 := by
          rcases hv with h | h
          · have h' : n = 0 ∧ s.size ≤ 1024 := by simpa [goodV] using h
            exact h'.2
          · simp [blankV] at h
        rw [if_pos rfl, if_pos rfl]
        have h := one_text 3 n s (by omega) s.size k 0 [3] (by omega) (by omega) (by simp) (by omega)
        rw [List.drop_zero] at h
        exact h
      · have hg : kd = 0 := by
          rcases hv with h | h
          · simp [goodV, k1, k2, k3] at h
          · have h' : kd = 0 ∧ n = 0 ∧ s.size = 0 := by simpa [blankV, and_assoc] using h
            exact h'.1
        subst hg
        rw [if_neg k3, if_neg k3]
        rfl

theorem rd_at {l : List S45} {i : Nat} {x : S45} (h : l[i]? = some x) : rd_T45 l (i : Int) = x := by
  unfold rd_T45
  rw [Int.toNat_natCast, List.getD_eq_getElem?_getD, h]
  rfl


theorem ok_size {v : ValD} (hv : goodV v = true ∨ blankV v = true) : v.s.size ≤ 1024 := by
  obtain ⟨k, n, s⟩ := v
  simp only
  rcases hv with h | h
  · by_cases k1 : k = 1
    · subst k1
      have h' : (n = 0 ∨ n = 1) ∧ s.size = 0 := by simpa [goodV] using h
      omega
    · by_cases k2 : k = 2
      · subst k2
        have h' : s.size = 0 := by simpa [goodV] using h
        omega
      · by_cases k3 : k = 3
        · subst k3
          have h' : n = 0 ∧ s.size ≤ 1024 := by simpa [goodV] using h
          exact h'.2
        · simp [goodV, k1, k2, k3] at h
  · have h' : k = 0 ∧ n = 0 ∧ s.size = 0 := by simpa [blankV, and_assoc] using h
    omega

theorem make_check (l : List S45) (hl : l.length ≤ 1000) : ∀ (d k i : Nat), i ≤ l.length → l.length - i = d →
    hedgerowref03_Make.l0 (d + 1 + k) l (i : Int) = if (l.drop i).all (fun x => okV (vd x)) = true then hedgerowref03_Make.l1 k l [] 0 else some (⟨#[]⟩, 11) := by
  intro d
  induction d with
  | zero =>
    intro k i hi hd
    have e : 0 + 1 + k = k + 1 := by omega
    rw [e]
    simp only [hedgerowref03_Make.l0]
    rw [if_neg (by omega), List.drop_of_length_le (by omega)]
    rfl
  | succ d ih =>
    intro k i hi hd
    have e : d + 1 + 1 + k = (d + 1 + k) + 1 := by omega
    rw [e]
    obtain ⟨x, hx⟩ : ∃ x, l[i]? = some x := ⟨_, List.getElem?_eq_getElem (by omega)⟩
    obtain ⟨hlt, hxe⟩ := List.getElem?_eq_some_iff.1 hx
    simp only [hedgerowref03_Make.l0]
    have hall : (l.drop i).all (fun x => okV (vd x)) = ((goodV ⟨x.f0, x.f1, x.f2⟩ || blankV ⟨x.f0, x.f1, x.f2⟩) && (l.drop (i + 1)).all (fun x => okV (vd x))) := by rw [List.drop_eq_getElem_cons hlt, hxe]; rfl
    rw [if_pos (by omega), if_pos (by omega), rd_at hx, ref_good, ref_blank, w64n i (by omega), hall]
    simp only [Option.bind_some]
    have hih := ih k (i + 1) (by omega) (by omega)
    cases goodV ⟨x.f0, x.f1, x.f2⟩ with
    | true =>
      rw [if_pos rfl, hih]
      simp
    | false =>
      cases blankV ⟨x.f0, x.f1, x.f2⟩ with
      | true =>
        rw [if_neg (by decide), if_pos rfl, hih]
        simp
      | false =>
        rw [if_neg (by decide), if_neg (by decide)]
        simp

theorem make_build (l : List S45) (hl : l.length ≤ 1000) (hok : l.all (fun x => okV (vd x)) = true) (hn : ∀ x ∈ l, -9223372036854775808 ≤ x.f1 ∧ x.f1 ≤ 9223372036854775807) : ∀ (d k i : Nat), i ≤ l.length → l.length - i = d → d + 1100 < k → (keyL ((l.take i).map vd)).length ≤ 4096 →
    hedgerowref03_Make.l1 k l (nums8 (keyL ((l.take i).map vd))) (i : Int) = some (makeS (l.map vd)) := by
  have hall : (l.map vd).all okV = true := by rw [List.all_map]; exact hok
  intro d
  induction d with
  | zero =>
    intro k i hi hd hk hlen
    obtain ⟨k, rfl⟩ : ∃ j, k = j + 1 := ⟨k - 1, by omega⟩
    simp only [hedgerowref03_Make.l1]
    rw [if_neg (by omega), strOfNums_bytes]
    rw [List.take_of_length_le (by omega)] at hlen ⊢
    unfold makeS
    rw [if_pos hall, if_neg (by omega)]
  | succ d ih =>
    intro k i hi hd hk hlen
    obtain ⟨k, rfl⟩ : ∃ j, k = j + 1 := ⟨k - 1, by omega⟩
    obtain ⟨x, hx⟩ : ∃ x, l[i]? = some x := ⟨_, List.getElem?_eq_getElem (by omega)⟩
    have hxo : okV (vd x) = true := List.all_eq_true.1 hok x (List.mem_of_getElem? hx)
    have hxo' : goodV (vd x) = true ∨ blankV (vd x) = true := by simpa [okV] using hxo
    have hxs : x.f2.size ≤ 1024 := ok_size (v := vd x) hxo'
    have hone := ref_one (vd x) hxo' (hn x (List.mem_of_getElem? hx)) k (by show x.f2.size + 10 < k; omega)
    have hpl := part_le hxo'
    have hsnoc : keyL ((l.take i).map vd) ++ partL (vd x) = keyL ((l.take (i + 1)).map vd) := by
      rw [List.take_add_one, hx, Option.toList_some, List.map_append, List.map_singleton, keyL_snoc]
    have hone' : hedgerowref03_one.f k x.f0 x.f1 x.f2 = some (nums8 (partL (vd x))) := hone
    simp only [hedgerowref03_Make.l1]
    rw [if_pos (by omega), if_pos (by omega), rd_at hx, hone', w64n i (by omega)]
    simp only [Option.bind_some]
    rw [← nums8_app, hsnoc, nums8_length, nums8_length, nums8_length, if_pos (by omega)]
    by_cases hbig : 4096 < (keyL ((l.take (i + 1)).map vd)).length
    · rw [if_pos (by omega), makeS_long (i := i + 1) hall (by rw [← List.map_take]; exact hbig)]
    · rw [if_neg (by omega)]
      exact ih k (i + 1) (by omega) (by omega) (by omega) (by omega)

theorem ref_make (l : List S45) (hl : l.length ≤ 1000) (hn : ∀ x ∈ l, -9223372036854775808 ≤ x.f1 ∧ x.f1 ≤ 9223372036854775807) : ∃ k, hedgerowref03_Make.f k l = some (makeS (l.map vd)) := by
  refine ⟨l.length + 1 + (l.length + 1200), ?_⟩
  unfold hedgerowref03_Make.f
  have h := make_check l hl l.length (l.length + 1200) 0 (by omega) (by omega)
  rw [List.drop_zero] at h
  refine h.trans ?_
  by_cases hok : l.all (fun x => okV (vd x)) = true
  · rw [if_pos hok]
    exact make_build l hl hok hn l.length (l.length + 1200) 0 (by omega) (by omega) (by omega) (by simp [keyL])
  · rw [if_neg hok]
    unfold makeS
    rw [if_neg (by rw [List.all_map]; exact hok)]

/-- Is a list too large to be gone through? -/
def largeB (l : List S45) : Bool := decide (100 < l.length) || l.any (fun x => decide (5000 < x.f2.size))

theorem large_from (l : List S45) (hl : l.length ≤ 100) : ∀ (d k i : Nat), i ≤ l.length → l.length - i = d → d < k →
    hedgerowlaw03_large.l0 k l (i : Int) = some ((l.drop i).any (fun x => decide (5000 < x.f2.size))) := by
  intro d
  induction d with
  | zero =>
    intro k i hi hd hk
    obtain ⟨k, rfl⟩ : ∃ j, k = j + 1 := ⟨k - 1, by omega⟩
    simp only [hedgerowlaw03_large.l0]
    rw [if_neg (by omega), List.drop_of_length_le (by omega)]
    rfl
  | succ d ih =>
    intro k i hi hd hk
    obtain ⟨k, rfl⟩ : ∃ j, k = j + 1 := ⟨k - 1, by omega⟩
    obtain ⟨x, hx⟩ : ∃ x, l[i]? = some x := ⟨_, List.getElem?_eq_getElem (by omega)⟩
    obtain ⟨hlt, hxe⟩ := List.getElem?_eq_some_iff.1 hx
    simp only [hedgerowlaw03_large.l0]
    rw [if_pos (by omega), if_pos (by omega), rd_at hx, w64n i (by omega), List.drop_eq_getElem_cons hlt, hxe]
    simp only [hedgerowkeep_LargeValue.f, Option.bind_some, List.any_cons]
    by_cases h5 : 5000 < x.f2.size
    · rw [decide_eq_true (show (x.f2.size : Int) > 5000 by omega), if_pos rfl, decide_eq_true h5, Bool.true_or]
    · rw [decide_eq_false (show ¬ (x.f2.size : Int) > 5000 by omega), if_neg (by decide), decide_eq_false h5, Bool.false_or]
      exact ih k (i + 1) (by omega) (by omega) (by omega)

theorem large_some (l : List S45) : ∃ k, hedgerowlaw03_large.f k l = some (largeB l) := by
  refine ⟨l.length + 1, ?_⟩
  unfold hedgerowlaw03_large.f largeB
  by_cases h : 100 < l.length
  · rw [if_pos (by omega), decide_eq_true h, Bool.true_or]
  · rw [if_neg (by omega), decide_eq_false h, Bool.false_or]
    have := large_from l (by omega) l.length (l.length + 1) 0 (by omega) (by omega) (by omega)
    rw [List.drop_zero] at this
    exact this

theorem large_false {l : List S45} (h : largeB l = false) : l.length ≤ 100 ∧ ∀ x ∈ l, x.f2.size ≤ 5000 := by
  unfold largeB at h
  simp only [Bool.or_eq_false_iff, decide_eq_false_iff_not, List.any_eq_false, decide_eq_true_eq] at h
  exact ⟨by omega, fun x hx => by have := h.2 x hx; omega⟩

theorem value_self (a b : Int) (s : ByteArray) : hedgerowkeep_Value.f a b s a b s = some true := by
  unfold hedgerowkeep_Value.f
  rw [if_pos rfl, if_pos rfl]
  simp

theorem values_from (l : List S45) (hl : l.length ≤ 1000000) : ∀ (d k i : Nat), i ≤ l.length → l.length - i = d → d < k → hedgerowkeep_Values.l0 k l l (i : Int) = some true := by
  intro d
  induction d with
  | zero =>
    intro k i hi hd hk
    obtain ⟨k, rfl⟩ : ∃ j, k = j + 1 := ⟨k - 1, by omega⟩
    simp only [hedgerowkeep_Values.l0]
    rw [if_neg (by omega)]
  | succ d ih =>
    intro k i hi hd hk
    obtain ⟨k, rfl⟩ : ∃ j, k = j + 1 := ⟨k - 1, by omega⟩
    simp only [hedgerowkeep_Values.l0]
    rw [if_pos (by omega), if_pos (by omega), if_pos (by omega), value_self, w64n i (by omega)]
    simp only [Option.bind_some, if_true]
    exact ih k (i + 1) (by omega) (by omega) (by omega)
theorem values_self (l : List S45) (hl : l.length ≤ 1000000) : ∃ k, hedgerowkeep_Values.f k l l = some true := by
  refine ⟨l.length + 1, ?_⟩
  unfold hedgerowkeep_Values.f
  rw [if_pos rfl]
  exact values_from l hl l.length (l.length + 1) 0 (by omega) (by omega) (by omega)

end Go.Proofs.YtfnlgpngnknkmaaDoor
