/-
  What is proved here: the statement PageOne: what has the same rows in the same slots is the same page, however it came about; what has not is another one; for every input.
  No condition.
-/
import Derived.Test.YtbikgahobkbpaaaPlay06
namespace Go.Proofs.Ytbikgahobkbpaaa.pageOne
open Go.ChangeShapes Go.WideShapes Go.ChangeAt Go.RowKit Go.Proofs.Ytbikgahobkbpaaa
set_option linter.unusedVariables false

/-- Each slot with a row. -/
def full (l : List RowD) : List RowD := l.map fun r => ⟨r.s, true⟩

theorem full_length (l : List RowD) : (full l).length = l.length := by simp [full]
theorem full_append (l l' : List RowD) : full (l ++ l') = full l ++ full l' := by simp [full]
theorem full_tookOf (l : List RowD) : tookOf (full l) = tookOf l := by
  induction l with
  | nil => rfl
  | cons r l ih =>
    simp only [full, List.map_cons, tookOf] at ih ⊢
    rw [ih]
theorem full_took (l : List RowD) : took (full l) = took l := by
  unfold took
  rw [full_length, full_tookOf]
theorem full_lowest (l : List RowD) : lowest (full l) = l.length := by
  induction l with
  | nil => rfl
  | cons r l ih =>
    simp only [full, List.map_cons, lowest, if_true, List.length_cons] at ih ⊢
    rw [ih]

/-- One more row behind rows without a gap. -/
theorem step_full {l : List RowD} {i : Nat} {r : RowD} (h : Valid l) (hx : l[i]? = some r) (k : Int) : stepL (full (l.take i)) ⟨0, k, r.s⟩ = full (l.take (i + 1)) := by
  have hlt : i < l.length := (List.getElem?_eq_some_iff.1 hx).1
  have hlen : (l.take i).length = i := by rw [List.length_take]; omega
  have hs : r.s.size ≤ 400 := h.few r (List.mem_of_getElem? hx)
  have ht : took (l.take (i + 1)) ≤ 512 := Nat.le_trans (took_prefix (List.take_prefix _ _)) h.took
  have ht2 : took (l.take (i + 1)) = took (l.take i) + r.s.size + 4 := by
    rw [take_last hx]
    simp only [took, List.length_append, tookOf_append, List.length_cons, List.length_nil, tookOf]
    omega
  unfold stepL
  rw [if_pos rfl]
  simp only
  unfold insR
  rw [if_neg (by omega), full_lowest, full_length, if_pos rfl, full_took, if_neg (by omega)]
  simp only
  unfold putL
  rw [if_pos (by rw [full_length]), take_last hx, full_append]
  rfl

/-- The page that is being made: i slots as they shall be, the others with a row. -/
def mid (l : List RowD) (i : Nat) : List RowD := l.take i ++ full (l.drop i)

theorem mid_zero (l : List RowD) : mid l 0 = full l := by simp [mid]
theorem mid_all (l : List RowD) : mid l l.length = l := by simp [mid, full]
theorem mid_there {l : List RowD} {i : Nat} {r : RowD} (hx : l[i]? = some r) (hr : r.there = true) : mid l (i + 1) = mid l i := by
  unfold mid
  rw [take_last hx, drop_cons hx]
  have e : full (r :: l.drop (i + 1)) = r :: full (l.drop (i + 1)) := by
    obtain ⟨s, t⟩ := r
    simp only at hr
    subst hr
    rfl
  rw [e]
  simp

theorem last_there {l : List RowD} (h : Valid l) (hn : 0 < l.length) : ∃ r, l[l.length - 1]? = some r ∧ r.there = true := by
  rcases last_cases l with ⟨_, hz | ⟨r, _, h1, h2⟩⟩ | ⟨hl, _⟩
  · rw [hz] at hn; simp at hn
  · exact ⟨r, h1, h2⟩
  · rw [h.last] at hl; cases hl

theorem step_mid {l : List RowD} {i : Nat} {r : RowD} (h : Valid l) (hx : l[i]? = some r) (hr : r.there = false) (s : ByteArray) : stepL (mid l i) ⟨2, (i : Int), s⟩ = mid l (i + 1) := by
  have hlt : i < l.length := (List.getElem?_eq_some_iff.1 hx).1
  have hlen : (l.take i).length = i := by rw [List.length_take]; omega
  have hs : r.s = ⟨#[]⟩ := h.free r (List.mem_of_getElem? hx) hr
  have hne : i + 1 < l.length := by
    obtain ⟨r', h1, h2⟩ := last_there h (by omega)
    by_cases e : i = l.length - 1
    · rw [← e, hx] at h1
      simp at h1
      rw [h1, h2] at hr; cases hr
    · omega
  have hm : mid l i = l.take i ++ ⟨r.s, true⟩ :: full (l.drop (i + 1)) := by
    unfold mid
    rw [drop_cons hx]; rfl
  have hh : has (mid l i) (i : Int) = true := by
    rw [hm]
    refine has_of (r := ⟨r.s, true⟩) ?_ rfl
    rw [List.getElem?_append_right (by omega), hlen, Nat.sub_self]; rfl
  unfold stepL
  rw [if_neg (show ¬ (2 : Int) = 0 by decide), if_neg (show ¬ (2 : Int) = 1 by decide), if_pos rfl]
  simp only
  unfold delR
  rw [if_pos hh, Int.toNat_natCast]
  unfold delL
  rw [hm, List.set_append_right _ _ (by omega), hlen, Nat.sub_self, List.set_cons_zero]
  have hr' : RowD.free = r := by
    obtain ⟨s', t'⟩ := r
    simp only at hs hr
    subst hs hr
    rfl
  have hnext : l.take i ++ RowD.free :: full (l.drop (i + 1)) = mid l (i + 1) := by
    unfold mid
    rw [take_last hx, hr']
    simp
  show trim (l.take i ++ RowD.free :: full (l.drop (i + 1))) = _
  rw [hnext]
  -- the last slot has a row
  obtain ⟨r2, h1, h2⟩ := last_there h (by omega)
  have hd : (l.drop (i + 1)) = (l.drop (i + 1)).take (l.length - 1 - (i + 1)) ++ [r2] := by
    have : (l.drop (i + 1))[l.length - 1 - (i + 1)]? = some r2 := by
      rw [List.getElem?_drop, show i + 1 + (l.length - 1 - (i + 1)) = l.length - 1 by omega]; exact h1
    rw [← take_last this, List.take_of_length_le (by rw [List.length_drop]; omega)]
  unfold mid
  rw [hd, full_append, ← List.append_assoc]
  exact trim_there _ _ rfl

theorem slots_append (l l' : List RowD) : ∀ k, slotsFrom k (l ++ l') = slotsFrom k l ++ slotsFrom (k + l.length) l' := by
  induction l with
  | nil => intro k; simp [slotsFrom]
  | cons r l ih =>
    intro k
    simp only [List.cons_append, slotsFrom, ih, List.length_cons]
    rw [show k + 1 + l.length = k + (l.length + 1) by omega]
    split <;> simp

/-- The greatest slot is the last one. -/
theorem slots_last {l : List RowD} (h : Valid l) (hn : 0 < l.length) : 0 < (slotsL l).length ∧ (slotsL l)[(slotsL l).length - 1]? = some (l.length - 1) := by
  obtain ⟨r, h1, h2⟩ := last_there h hn
  have e : l = l.take (l.length - 1) ++ [r] := by
    rw [← take_last h1, show l.length - 1 + 1 = l.length by omega, List.take_length]
  have hs : slotsL l = slotsFrom 0 (l.take (l.length - 1)) ++ [l.length - 1] := by
    unfold slotsL
    conv => lhs; rw [e]
    rw [slots_append]
    simp only [slotsFrom, h2, if_true, List.length_take]
    congr 2
    omega
  rw [hs]
  refine ⟨by simp, ?_⟩
  simp

/-- What 'Get' gives of a slot, there or free. -/
theorem get_row {l : List RowD} {i : Nat} {r : RowD} (h : Valid l) (hx : l[i]? = some r) : getR l (i : Int) = (r.s, if r.there = true then 0 else 60) := by
  unfold getR
  have hlt : i < l.length := (List.getElem?_eq_some_iff.1 hx).1
  cases ht : r.there with
  | true =>
    rw [if_pos (has_of hx ht), if_pos rfl, Int.toNat_natCast, List.getD_eq_getElem?_getD, hx]; rfl
  | false =>
    have hf : has l (i : Int) = false := by
      unfold has
      rw [Int.toNat_natCast, List.getD_eq_getElem?_getD, hx]
      simp [ht]
    rw [hf, h.free r (List.mem_of_getElem? hx) ht]
    rfl

theorem same_iff {l l' : List RowD} (h : Valid l) (h' : Valid l') {c : Bool} (hc : c = true ↔ l = l') : ((enc l).toList == (enc l').toList) = c := by
  rw [same_text]
  cases c
  · rw [decide_eq_false]
    intro e
    have := hc.2 (enc_inj h h' e)
    cases this
  · rw [decide_eq_true]
    rw [hc.1 rfl]

set_option maxRecDepth 100000 in
set_option maxHeartbeats 4000000 in
theorem walk (p : Option Addr) (A : List StepD) (q : Nat) (p' : Option Addr) (B : List StepD) (q' : Nat) (w : World) (hl : ((A.length : Nat) : Int) ≤ 9223372036854775807) (hst : StepsAt w p A)
    (hl' : ((B.length : Nat) : Int) ≤ 9223372036854775807) (hst' : StepsAt w p' B) :
    Calls Try.prog 3 #[.slice p A.length q, .slice p' B.length q'] w fun e w' => e = .returned (.bool true) ∧ Only [] w w' := by
  have HST := Lib.hid hst; clear hst
  have HST' := Lib.hid hst'; clear hst'
  cases hf : fairB A with
  | false =>
    go_enter Try.func3, Try.ntmps3
    go_wp2_with fail
    refine (fair_any p A q _ hl HST.out).mono ?_
    rintro e w1 ⟨rfl, rfl⟩
    rw [hf]
    clear hf
    go_wp2_with fail
    refine (wakes_any _).mono ?_
    rintro e w2 ⟨rfl, ho⟩
    have HO := Lib.hid ho; clear ho
    go_wp2_with fail
    go_ret
    exact ⟨rfl, HO.out⟩
  | true =>
    obtain ⟨hlen, hrows⟩ := fair_true hf
    have HROWS := Lib.hid hrows; clear hrows
    cases hf' : fairB B with
    | false =>
      go_enter Try.func3, Try.ntmps3
      go_wp2_with fail
      refine (fair_any p A q _ hl HST.out).mono ?_
      rintro e w1 ⟨rfl, rfl⟩
      rw [hf]
      clear hf
      go_wp2_with fail
      refine (fair_any p' B q' _ hl' HST'.out).mono ?_
      rintro e w1 ⟨rfl, rfl⟩
      rw [hf']
      clear hf'
      go_wp2_with fail
      refine (wakes_any _).mono ?_
      rintro e w2 ⟨rfl, ho⟩
      have HO := Lib.hid ho; clear ho
      go_wp2_with fail
      go_ret
      exact ⟨rfl, HO.out⟩
    | true =>
      obtain ⟨hlen', hrows'⟩ := fair_true hf'
      have HROWS' := Lib.hid hrows'; clear hrows'
      go_enter Try.func3, Try.ntmps3
      go_wp2_with fail
      refine (fair_any p A q _ hl HST.out).mono ?_
      rintro e w1 ⟨rfl, rfl⟩
      rw [hf]
      clear hf
      go_wp2_with fail
      refine (fair_any p' B q' _ hl' HST'.out).mono ?_
      rintro e w1 ⟨rfl, rfl⟩
      rw [hf']
      clear hf'
      go_wp2_with fail
      refine (empty_any _).mono ?_
      rintro e w2 ⟨rfl, ho⟩
      have hs0 := pg_new (Sep.of_old ho)
      obtain ⟨b1, hb⟩ : ∃ b, b = w2.heap.size := ⟨_, rfl⟩
      rw [← hb] at hs0
      have HS0 := Lib.hid hs0; clear hs0 ho
      have HB1 := Lib.hid hb; clear hb
      go_wp2_with fail
      rw [← HB1.out]
      refine (empty_any _).mono ?_
      rintro e w3 ⟨rfl, ho⟩
      have hs1 := (pg_new (HS0.out.only ho)).up1
      obtain ⟨b2, hb⟩ : ∃ b, b = w3.heap.size := ⟨_, rfl⟩
      rw [← hb] at hs1
      have HS1 := Lib.hid hs1; clear hs1 ho HS0 HB1
      have HB2 := Lib.hid hb; clear hb
      go_upto_block 0 with fail
      rw [← HB2.out]
      clear HB2
      generalize (w3.alloc (.cells #[.slice none 0 0] 29)) = V at *
      go_cut [5, 9] (fun s5 s9 wx => s9 = .bool true ∧ ∃ la, s5 = .string (enc la) ∧ Valid la ∧ Sep w wx [refPg b1 la, refPg b2 []])
      case first =>
        as_aux_lemma =>
        go_wp2_with fail
        go_loopw [5, 9, 10] (fun s5 s9 s10 wr => ∃ (i : Nat) (la : List RowD), i ≤ A.length ∧ s10 = .int .i64 i ∧ s9 = .bool true ∧ s5 = .string (enc la) ∧ Valid la ∧ Sep w wr [refPg b1 la, refPg b2 []]) (fun _ _ s10 _ => A.length - (intOf s10).toNat)
        case atStart => exact ⟨0, [], Nat.zero_le _, rfl, rfl, rfl, Valid.nil, HS1.out⟩
        case round =>
          obtain ⟨i, la, hi, rfl, rfl, rfl, hv, hs⟩ := hrel
          have HT := Lib.hid hs; clear hs HS1
          have HV := Lib.hid hv; clear hv
          by_cases hlt : i < A.length
          · obtain ⟨x, hx⟩ : ∃ x, A[i]? = some x := ⟨_, List.getElem?_eq_getElem hlt⟩
            obtain ⟨b', o, rfl, hb, hk1, hk2, c0, c1, c2⟩ := (HST.out.only HT.out.old) i x hx
            have hxr := HROWS.out x (List.mem_of_getElem? hx)
            clear hx
            have HV2 := Lib.hid (stepL_valid HV.out x)
            go_wp2_with fail
            refine (play_any x HT.out HV.out (by omega)).mono ?_
            rintro e w4 ⟨rfl, hs4⟩
            have HS4 := Lib.hid hs4; clear hs4
            go_wp2_with fail
            go_roundw
            case rel => exact ⟨i + 1, _, by omega, by go_num, rfl, rfl, HV2.out, HS4.out⟩
            case measure => simp [intOf]; omega
          · go_wp2_with fail
            go_meet
            exact ⟨rfl, la, rfl, HV.out, HT.out⟩
      case rest =>
        obtain ⟨rfl, la, rfl, hva, hs⟩ := hcut
        have HS2 := Lib.hid hs; clear hs HS1
        have HVA := Lib.hid hva; clear hva
        go_upto_block 2 with fail
        go_cut [7, 9] (fun s7 s9 wx => s9 = .bool true ∧ ∃ lb, s7 = .string (enc lb) ∧ Valid lb ∧ Sep w wx [refPg b1 la, refPg b2 lb])
        case first =>
          as_aux_lemma =>
          go_wp2_with fail
          go_loopw [7, 9, 11] (fun s7 s9 s11 wr => ∃ (i : Nat) (lb : List RowD), i ≤ B.length ∧ s11 = .int .i64 i ∧ s9 = .bool true ∧ s7 = .string (enc lb) ∧ Valid lb ∧ Sep w wr [refPg b1 la, refPg b2 lb]) (fun _ _ s11 _ => B.length - (intOf s11).toNat)
          case atStart => exact ⟨0, [], Nat.zero_le _, rfl, rfl, rfl, Valid.nil, HS2.out⟩
          case round =>
            obtain ⟨i, lb, hi, rfl, rfl, rfl, hv, hs⟩ := hrel
            have HT := Lib.hid hs; clear hs HS2
            have HV := Lib.hid hv; clear hv
            by_cases hlt : i < B.length
            · obtain ⟨x, hx⟩ : ∃ x, B[i]? = some x := ⟨_, List.getElem?_eq_getElem hlt⟩
              obtain ⟨b', o, rfl, hb, hk1, hk2, c0, c1, c2⟩ := (HST'.out.only HT.out.old) i x hx
              have hxr := HROWS'.out x (List.mem_of_getElem? hx)
              clear hx
              have HV2 := Lib.hid (stepL_valid HV.out x)
              go_wp2_with fail
              refine (play_any x HT.out.up1 HV.out (by omega)).mono ?_
              rintro e w4 ⟨rfl, hs4⟩
              have HS4 := Lib.hid hs4.up1; clear hs4
              go_wp2_with fail
              go_roundw
              case rel => exact ⟨i + 1, _, by omega, by go_num, rfl, rfl, HV2.out, HS4.out⟩
              case measure => simp [intOf]; omega
            · go_wp2_with fail
              go_meet
              exact ⟨rfl, lb, rfl, HV.out, HT.out⟩
        case rest =>
          obtain ⟨rfl, lb, rfl, hvb, hs⟩ := hcut
          have HS3 := Lib.hid hs; clear hs HS2
          have HVB := Lib.hid hvb; clear hvb
          have hla := took_len HVA.out.took
          have hza : (enc la).size = 512 := enc_size HVA.out.took
          go_wp2_with fail
          refine (rp_same HS3.out (by omega)).mono ?_
          rintro e w5 ⟨c, rfl, hc, hs5⟩
          have hq := same_iff HVA.out HVB.out hc
          have HS5 : Hid (Sep w w5 [refPg b1 la]) := hs5.up1.tail
          clear hc hs5 HS3
          have hcc : (c != c) = false := bne_self_eq_false _
          go_wp2_with fail
          refine (rp_slots HS5.out (by omega)).mono ?_
          rintro e w6 ⟨p3, q3, rfl, hs6⟩
          have HS6 := Lib.hid hs6; clear hs6 HS5
          clear hcc hq
          go_upto_if 90 with fail
          go_cut [13] (fun s13 wx => s13 = .int .i64 la.length ∧ w6 = wx)
          case first =>
            by_cases hn : la.length = 0
            · have hnil : la = [] := List.eq_nil_of_length_eq_zero hn
              subst hnil
              have hl0 : ((slotsL []).length : Int) = 0 := rfl
              go_wp2_with fail
              go_meet
              exact ⟨rfl, rfl⟩
            · obtain ⟨h1, h2⟩ := slots_last HVA.out (by omega)
              obtain ⟨g, hg⟩ := HS6.out.rowAt (by simp [natCells]; omega)
              subst hg
              have c0 := (HS6.out.rowCell (natCells_at h2)).1
              have hp : (0 : Int) < (slotsL la).length := by omega
              have hb : (((la.length - 1 : Nat) : Int)) + 1 = la.length := by omega
              have hsl : (slotsL la).length ≤ 1000 := by
                have := slotsFrom_length la 0
                have := cnt_le la
                unfold slotsL
                omega
              clear h2
              go_wp2_with fail
              go_meet
              exact ⟨rfl, rfl⟩
          case rest =>
            obtain ⟨rfl, rfl⟩ := hcut
            have HS7 := Lib.hid HS6.out.tail; clear HS6
            go_wp2_with fail
            refine (empty_any _).mono ?_
            rintro e w7 ⟨rfl, ho⟩
            have hs7 := pg_new (HS7.out.only ho)
            obtain ⟨b3, hb⟩ : ∃ b, b = w7.heap.size := ⟨_, rfl⟩
            rw [← hb] at hs7
            have HS8 := Lib.hid hs7; clear hs7 ho HS7
            have HB3 := Lib.hid hb; clear hb
            go_upto_block 4 with fail
            rw [← HB3.out]
            clear HB3
            generalize (w7.alloc (.cells #[.slice none 0 0] 29)) = V at *
            go_cut [9, 14] (fun s9 s14 wx => s9 = .bool true ∧ s14 = .string (enc (full la)) ∧ Valid (full la) ∧ Sep w wx [refPg b3 (full la), refPg b1 la])
            case first =>
              as_aux_lemma =>
              go_wp2_with fail
              go_loopw [9, 14, 16] (fun s9 s14 s16 wr => ∃ i : Nat, i ≤ la.length ∧ s16 = .int .i64 i ∧ s9 = .bool true ∧ s14 = .string (enc (full (la.take i))) ∧ Valid (full (la.take i)) ∧ Sep w wr [refPg b3 (full (la.take i)), refPg b1 la]) (fun _ _ s16 _ => la.length - (intOf s16).toNat)
              case atStart => exact ⟨0, Nat.zero_le _, rfl, rfl, rfl, Valid.nil, HS8.out⟩
              case round =>
                obtain ⟨i, hi, rfl, rfl, rfl, hv, hs⟩ := hrel
                have HT := Lib.hid hs; clear hs HS8
                have HV := Lib.hid hv; clear hv
                by_cases hlt : i < la.length
                · obtain ⟨r, hx⟩ : ∃ r, la[i]? = some r := ⟨_, List.getElem?_eq_getElem hlt⟩
                  have hst := step_full HVA.out hx 0
                  have hsv := stepL_valid HV.out ⟨0, 0, r.s⟩
                  rw [hst] at hsv
                  have hrs : r.s.size ≤ 400 := HVA.out.few r (List.mem_of_getElem? hx)
                  have HG := Lib.hid (get_row HVA.out hx)
                  have HSTP := Lib.hid hst; clear hst hx
                  have HV2 := Lib.hid hsv; clear hsv
                  go_wp2_with fail
                  refine (rp_get i HT.out.up1 (by omega)).mono ?_
                  rintro e w8 ⟨rfl, rfl⟩
                  rw [HG.out]
                  generalize (if r.there = true then (0 : Int) else 60) = z at *
                  go_wp2_with fail
                  refine (play_any ⟨0, 0, r.s⟩ HT.out HV.out (by show r.s.size ≤ _; omega)).mono ?_
                  rintro e w9 ⟨rfl, hs9⟩
                  rw [HSTP.out] at hs9
                  rw [HSTP.out]
                  have HS9 := Lib.hid hs9; clear hs9
                  go_wp2_with fail
                  go_roundw
                  case rel => exact ⟨i + 1, by omega, by go_num, rfl, rfl, HV2.out, HS9.out⟩
                  case measure => simp [intOf]; omega
                · have e : la.take i = la := List.take_of_length_le (by omega)
                  have HP : Hid (Valid (full la) ∧ Sep w wr [refPg b3 (full la), refPg b1 la]) := by
                    have h1 := HV.out
                    have h2 := HT.out
                    rw [e] at h1 h2
                    exact ⟨h1, h2⟩
                  rw [e]
                  go_wp2_with fail
                  go_meet
                  exact ⟨rfl, rfl, HP.out⟩
            case rest =>
              obtain ⟨rfl, rfl, hvf, hs⟩ := hcut
              rw [← mid_zero] at hvf hs
              rw [← mid_zero]
              have HS9 := Lib.hid hs; clear hs HS8
              have HVF := Lib.hid hvf; clear hvf
              go_upto_block 6 with fail
              go_cut [9, 14] (fun s9 s14 wx => s9 = .bool true ∧ s14 = .string (enc la) ∧ Only [] w wx)
              case first =>
                as_aux_lemma =>
                go_wp2_with fail
                go_loopw [9, 14, 19] (fun s9 s14 s19 wr => ∃ i : Nat, i ≤ la.length ∧ s19 = .int .i64 i ∧ s9 = .bool true ∧ s14 = .string (enc (mid la i)) ∧ Valid (mid la i) ∧ Sep w wr [refPg b3 (mid la i), refPg b1 la]) (fun _ _ s19 _ => la.length - (intOf s19).toNat)
                case atStart => exact ⟨0, Nat.zero_le _, rfl, rfl, rfl, HVF.out, HS9.out⟩
                case round =>
                  obtain ⟨i, hi, rfl, rfl, rfl, hv, hs⟩ := hrel
                  have HT := Lib.hid hs; clear hs HS9
                  have HV := Lib.hid hv; clear hv
                  by_cases hlt : i < la.length
                  · obtain ⟨r, hx⟩ : ∃ r, la[i]? = some r := ⟨_, List.getElem?_eq_getElem hlt⟩
                    have HG := Lib.hid (get_row HVA.out hx)
                    cases hrt : r.there with
                    | true =>
                      have hmt := mid_there hx hrt
                      have hv2 := HV.out
                      have hs2 := HT.out
                      rw [← hmt] at hv2 hs2
                      have HV2 := Lib.hid hv2; clear hv2
                      have HS2 := Lib.hid hs2; clear hs2
                      have HMT := Lib.hid hmt; clear hmt hx
                      have hg := HG.out
                      rw [hrt, if_pos rfl] at hg
                      have HG2 := Lib.hid hg; clear hg hrt
                      go_wp2_with fail
                      refine (rp_get i HT.out.up1 (by omega)).mono ?_
                      rintro e w8 ⟨rfl, rfl⟩
                      rw [HG2.out]
                      go_wp2_with fail
                      go_roundw
                      case rel => exact ⟨i + 1, by omega, by go_num, rfl, by rw [HMT.out], HV2.out, HS2.out⟩
                      case measure => simp [intOf]; omega
                    | false =>
                      have hst := step_mid HVA.out hx hrt ⟨#[]⟩
                      have hsv := stepL_valid HV.out ⟨2, (i : Int), ⟨#[]⟩⟩
                      rw [hst] at hsv
                      have HSTP := Lib.hid hst; clear hst hx
                      have HV2 := Lib.hid hsv; clear hsv
                      have hg := HG.out
                      rw [hrt, if_neg (by simp)] at hg
                      have HG2 := Lib.hid hg; clear hg hrt
                      go_wp2_with fail
                      refine (rp_get i HT.out.up1 (by omega)).mono ?_
                      rintro e w8 ⟨rfl, rfl⟩
                      rw [HG2.out]
                      go_wp2_with fail
                      refine (play_any ⟨2, (i : Int), ⟨#[]⟩⟩ HT.out HV.out (by show (0 : Nat) ≤ _; omega)).mono ?_
                      rintro e w9 ⟨rfl, hs9⟩
                      rw [HSTP.out] at hs9
                      rw [HSTP.out]
                      have HS9 := Lib.hid hs9; clear hs9
                      go_wp2_with fail
                      go_roundw
                      case rel => exact ⟨i + 1, by omega, by go_num, rfl, rfl, HV2.out, HS9.out⟩
                      case measure => simp [intOf]; omega
                  · obtain rfl : i = la.length := by omega
                    have HO := Lib.hid HT.out.old
                    rw [mid_all]
                    go_wp2_with fail
                    go_meet
                    exact ⟨rfl, rfl, HO.out⟩
              case rest =>
                obtain ⟨rfl, rfl, ho⟩ := hcut
                have HO := Lib.hid ho; clear ho HS9
                have q2 : ((enc la).toList == (enc la).toList) = true := beq_self_eq_true _
                go_wp2_with fail
                refine (wakes_any _).mono ?_
                rintro e w9 ⟨rfl, ho⟩
                have HO2 := Lib.hid (HO.out.trans ho (Within.nil _ _)); clear ho
                go_wp2_with fail
                go_ret
                exact ⟨rfl, HO2.out⟩

theorem own : ownKnob Try.prog.godebug = none := by kernel_rfl
theorem laidOut : laidOutB Try.prog = true := by kernel_rfl

set_option maxRecDepth 100000 in
theorem lifted (os : Os) (started : os.Started) (H : Type) (enc : TypeId × Value → H) :
    ReturnsInHanded {} Try.checked os 3 .any (Rows.pageOneSpec.pre6 enc Try.prog Try.f3 Rows.pageOneRow.domain false) (Rows.pageOneSpec.post enc Try.prog Try.f3 false true false false) := by
  refine returnsInHanded_of_change (C := Try.checked) own started (by kernel_rfl) Try.func3
    (ChangeSpec.witness6 (enc := enc) (C := Try.checked) false ⟨#[], #[.slice none 0 0, .slice none 0 0], []⟩ 8 (by kernel_rfl) (by kernel_rfl) (by kernel_rfl) (by kernel_rfl)) ?_
  intro W base args ds gs before hval0 hW hcnd _
  have hval : ∀ (j : Nat) t v, Try.f3.params[j]? = some t → args[j]? = some v → Value.okWide Try.prog W .any base t v := hval0
  have hW' := hW
  obtain ⟨pp, pq, hA0, hV, rfl, hfz, hnd⟩ := hW
  have hA : DataW.TrodAll enc Try.prog W 0 (fun _ => true) true Try.f3.params.toList args.toList ds pp := hA0
  rw [Try.params3] at hA hval
  obtain ⟨v0, vs0, d0, ds0, p0, q0, hargs, rfl, rfl, h0, r0⟩ := trodAll_cons hA
  obtain ⟨v1, vs1, d1, ds1, p1, q1, rfl, rfl, rfl, h1, r1⟩ := trodAll_cons r0
  obtain ⟨rfl, rfl, rfl⟩ := trodAll_nil r1
  obtain rfl : args = #[v0, v1] := by cases args; simp_all
  obtain ⟨rfl, rfl⟩ := trodVars_none hV
  obtain ⟨sp0, sl0, sq0, rfl, hl0, hst0⟩ := open_steps (W := W) (v := v0) (by
    obtain ⟨a, len, cap, rfl⟩ := okWide_slice Try.underlying22 (hval 0 22 v0 rfl rfl)
    exact ⟨a, len, cap, rfl⟩) h0
  obtain ⟨sp1, sl1, sq1, rfl, hl1, hst1⟩ := open_steps (W := W) (v := v1) (by
    obtain ⟨a, len, cap, rfl⟩ := okWide_slice Try.underlying22 (hval 1 22 v1 rfl rfl)
    exact ⟨a, len, cap, rfl⟩) h1
  clear hA0 hval0
  simp only [List.append_nil] at hW'
  refine (walk sp0 sl0 sq0 sp1 sl1 sq1 W hl0 hst0 hl1 hst1).mono fun e W' ⟨he, hg⟩ => ?_
  subst he
  have hb : Below W.heap.size W W' := hg.below (Nat.le_refl _) (by simp)
  have hargs := (trodAll_cons_mk (Below.trod laidOut (by kernel_rfl) (of_decide_eq_true (by kernel_rfl)) h0 hb (fun x hx => hW'.lt x (by simp [hx]))) (trodAll_cons_mk (Below.trod laidOut (by kernel_rfl) (of_decide_eq_true (by kernel_rfl)) h1 hb (fun x hx => hW'.lt x (by simp [hx]))) trodAll_mk0))
  simp only [List.append_nil] at hargs
  exact ⟨_, rfl, _, _, _, [], _, [], hW', trodAll_cons_mk (shut_bool Try.underlying4 _) trodAll_mk0, hargs, rfl, hb.frame _, fun h => by cases h⟩

theorem over : Rows.pageOneRow.holds Try.pinned (OpenSpec.ofChange Rows.pageOneSpec) :=
  OpenClaim.holds_of_wide 3 Try.f3 rfl rfl rfl rfl rfl rfl rfl ⟨rfl, rfl, rfl, rfl, rfl⟩ rfl rfl rfl rfl rfl (by kernel_rfl) Try.func3 (by kernel_rfl)
    (of_decide_eq_true (by kernel_rfl)) (by unfold Func.isWrapper; first | (rw [if_pos (by decide +kernel)]; kernel_rfl) | (rw [if_neg (by decide +kernel)]; exact ⟨rfl, rfl⟩))
    (fun os started H enc _ => lifted os started H enc)

theorem proved : Rows.PageOneSaid := over
#print axioms proved
end Go.Proofs.Ytbikgahobkbpaaa.pageOne
