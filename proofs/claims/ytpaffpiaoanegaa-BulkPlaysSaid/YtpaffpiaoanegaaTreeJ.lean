/-
  What is proved here: the keys between two (Range of package tree, with its walk).
  No condition: each lemma names its own.
-/
import Derived.Test.YtpaffpiaoanegaaTreeI
import Derived.Sort.Walk0
set_option linter.unusedVariables false
set_option linter.unusedSimpArgs false
namespace Go.Proofs.Ytpaffpiaoanegaa
open Go.RowKit

/-- One key more, or no more. -/
def fnR (to : ByteArray) (most : Int) (acc : List E) (e : E) : List E × Bool := if most ≤ acc.length ∨ (to ≠ ⟨#[]⟩ ∧ ¬ ltB e.1 to) then (acc, false) else (acc ++ [e], true)
def runL (to : ByteArray) (most : Int) : List E → List E → List E × Bool
  | [], acc => (acc, true)
  | e :: l, acc => if (fnR to most acc e).2 then runL to most l (fnR to most acc e).1 else ((fnR to most acc e).1, false)
theorem runL_append (to : ByteArray) (most : Int) (b : List E) : ∀ (a acc : List E), runL to most (a ++ b) acc = if (runL to most a acc).2 then runL to most b (runL to most a acc).1 else ((runL to most a acc).1, false)
  | [], acc => by simp [runL]
  | e :: a, acc => by
    rw [List.cons_append, runL, runL]
    split
    · exact runL_append to most b a _
    · simp
theorem fnR_len (to : ByteArray) (most : Int) (acc : List E) (e : E) : (fnR to most acc e).1.length ≤ acc.length + 1 := by
  unfold fnR
  split <;> simp
theorem runL_len (to : ByteArray) (most : Int) : ∀ (a acc : List E), (runL to most a acc).1.length ≤ acc.length + a.length
  | [], acc => by simp [runL]
  | e :: a, acc => by
    have h := fnR_len to most acc e
    rw [runL]
    split
    · have := runL_len to most a (fnR to most acc e).1
      simp; omega
    · simp; omega

def collParts (o m t : Nat) (to : ByteArray) (most : Int) (acc : List E) (x : Option Addr × Nat) : List Res :=
  [blkRes o (.cells #[.slice x.1 acc.length x.2] 32 (0, 0)), rowRes 31 2 (.slice x.1 acc.length x.2) acc.length (cellsE acc), blkRes m (.cells #[.int .i64 most] 3 (0, 0)), blkRes t (.cells #[.string to] 9 (0, 0))]
def collRes (o m t : Nat) (to : ByteArray) (most : Int) (acc : List E) : Res := exRes (collParts o m t to most acc) (fun _ => True)

set_option maxRecDepth 100000 in
set_option maxHeartbeats 1000000 in
theorem fn_any {w W : World} {l : List Res} {o m t : Nat} {to : ByteArray} {most : Int} {acc : List E} (hs : Sep w W (collRes o m t to most acc :: l)) (hl : acc.length < 100000) (e : E) :
    Calls Try.prog 35 #[.agg #[.string e.1, .int .i64 e.2], .pointer (some ⟨o, 0, none⟩), .pointer (some ⟨m, 0, none⟩), .pointer (some ⟨t, 0, none⟩)] W fun r W' =>
      r = .returned (.bool (fnR to most acc e).2) ∧ Sep w W' (collRes o m t to most (fnR to most acc e).1 :: l) := by
  obtain ⟨⟨p, q⟩, hs1, _⟩ := hs.open
  simp only [collParts, List.cons_append, List.nil_append] at hs1
  have hs2 := hs1.alloc #[.string e.1, .int .i64 e.2] 31
  have be := hs2.blk
  have bo := hs2.up1.blk
  have bm := hs2.up3.blk
  have bt := (hs2.tail.up3).blk
  have e0 := cell_of_block be 0 (v := .string e.1) rfl
  have o0 := cell_of_block bo 0 (v := .slice p acc.length q) rfl
  have m0 := cell_of_block bm 0 (v := .int .i64 most) rfl
  have t0 := cell_of_block bt 0 (v := .string to) rfl
  have HS3 := Lib.hid (hs2.up2)
  have HS := Lib.hid hs
  obtain ⟨ie, IE⟩ := info_of Try.infoEnt
  clear hs hs1 hs2 be bo bm bt
  by_cases h1 : most ≤ (acc.length : Int)
  · have HV := Lib.hid (show fnR to most acc e = (acc, false) from by unfold fnR; rw [if_pos (.inl h1)])
    clear HS3
    have HSW := Lib.hid (HS.out.forget (.cells #[.string e.1, .int .i64 e.2] 31))
    go_enter Try.func35, Try.ntmps35
    go_wp2_with fail
    go_ret
    exact ⟨by rw [HV.out]; rfl, by rw [HV.out]; exact HSW.out⟩
  · by_cases h2 : to = ⟨#[]⟩
    · subst h2
      have HV := Lib.hid (show fnR ⟨#[]⟩ most acc e = (acc ++ [e], true) from by unfold fnR; rw [if_neg (by simp [h1])])
      have h1' : (acc.length : Int) < most := by omega
      go_enter Try.func35, Try.ntmps35
      go_wp2_with (at_builtin; go_must (refine wpList_append_sep (e := 31) (w := w) (cs := #[.string e.1, .int .i64 e.2]) rfl (.tmp 20) (.tmp 22) 32 rfl ie _ 2 24 Try.underlying32 IE.out rfl (by decide) _ acc.length (cellsE acc) rfl rfl (by simp) rfl ?one HS3.out (by unfold maxLen; omega) (by omega) ?_))
      case one => simp [Value.oneCell']
      intro p2 q2 w2 hs4
      have hs5 := hs4.up2
      have bo2 := hs5.blk
      have o2 := cell_of_block bo2 0 (v := .slice p acc.length q) rfl
      have f2 := free_of_block bo2 0
      have hs6 := (hs5.store 0 (.slice p2 (acc.length + 1) q2)).up2.tail
      have hc : cellsE acc ++ (#[Value.string e.1, Value.int .i64 e.2] : Array Value).toList = cellsE (acc ++ [e]) := by rw [cellsE_append]; rfl
      rw [hc] at hs6
      have HF := Lib.hid (show Sep w (w2.setCell ⟨o, 0, none⟩ (.slice p2 (acc.length + 1) q2)) (collRes o m t ⟨#[]⟩ most (acc ++ [e]) :: l) from by
        refine Sep.close (p2, q2) ?_ trivial
        simpa [collParts] using hs6)
      clear hs4 hs5 bo2 hs6
      go_wp2_with fail
      go_ret
      exact ⟨by rw [HV.out]; rfl, by rw [HV.out]; exact HF.out⟩
    · have h2l : ¬ to.toList = [] := fun q => h2 (by
        rw [Lib.toList_data] at q
        cases to
        simp only [ByteArray.mk.injEq]
        exact Array.toList_inj.1 q)
      have h2e : to.toList.isEmpty = false := by cases hh : to.toList with
        | nil => exact absurd hh h2l
        | cons _ _ => rfl
      by_cases h3 : ltB e.1 to
      · have b1 : Op.bytesLess e.1.toList to.toList = true := by rw [Go.Proofs.bytesLess_eq, Lib.toList_data, Lib.toList_data]; exact decide_eq_true h3
        have HV := Lib.hid (show fnR to most acc e = (acc ++ [e], true) from by unfold fnR; rw [if_neg (by simp [h1, h3])])
        have h1' : (acc.length : Int) < most := by omega
        clear h3
        go_enter Try.func35, Try.ntmps35
        go_wp2_with (at_builtin; go_must (refine wpList_append_sep (e := 31) (w := w) (cs := #[.string e.1, .int .i64 e.2]) rfl (.tmp 20) (.tmp 22) 32 rfl ie _ 2 24 Try.underlying32 IE.out rfl (by decide) _ acc.length (cellsE acc) rfl rfl (by simp) rfl ?one HS3.out (by unfold maxLen; omega) (by omega) ?_))
        case one => simp [Value.oneCell']
        intro p2 q2 w2 hs4
        have hs5 := hs4.up2
        have bo2 := hs5.blk
        have o2 := cell_of_block bo2 0 (v := .slice p acc.length q) rfl
        have f2 := free_of_block bo2 0
        have hs6 := (hs5.store 0 (.slice p2 (acc.length + 1) q2)).up2.tail
        have hc : cellsE acc ++ (#[Value.string e.1, Value.int .i64 e.2] : Array Value).toList = cellsE (acc ++ [e]) := by rw [cellsE_append]; rfl
        rw [hc] at hs6
        have HF := Lib.hid (show Sep w (w2.setCell ⟨o, 0, none⟩ (.slice p2 (acc.length + 1) q2)) (collRes o m t to most (acc ++ [e]) :: l) from by
          refine Sep.close (p2, q2) ?_ trivial
          simpa [collParts] using hs6)
        clear hs4 hs5 bo2 hs6
        go_wp2_with fail
        go_ret
        exact ⟨by rw [HV.out]; rfl, by rw [HV.out]; exact HF.out⟩
      · have b1 : Op.bytesLess e.1.toList to.toList = false := by rw [Go.Proofs.bytesLess_eq, Lib.toList_data, Lib.toList_data]; exact decide_eq_false h3
        have HV := Lib.hid (show fnR to most acc e = (acc, false) from by unfold fnR; rw [if_pos (.inr ⟨h2, h3⟩)])
        clear HS3 h3
        have HSW := Lib.hid (HS.out.forget (.cells #[.string e.1, .int .i64 e.2] 31))
        go_enter Try.func35, Try.ntmps35
        go_wp2_with fail
        go_ret
        exact ⟨by rw [HV.out]; rfl, by rw [HV.out]; exact HSW.out⟩

def fnV (o m t : Nat) : Value := .func (Fn.func 35) #[] #[.pointer (some ⟨o, 0, none⟩), .pointer (some ⟨m, 0, none⟩), .pointer (some ⟨t, 0, none⟩)]

theorem restT_end (key : ByteArray) {fan h : Nat} {t : T} (hk : Kd fan h t) {i : Nat} (hi : t.keys.length < i) : restT key h t i = [] := by
  cases h with
  | zero => simp only [restT]; exact List.drop_of_length_le (by omega)
  | succ h =>
    have := hk.1
    simp only [restT]
    rw [List.drop_of_length_le (l := t.keys) (by omega), List.drop_of_length_le (l := t.kids) (by omega)]
    rfl

set_option maxRecDepth 100000 in
set_option maxHeartbeats 2000000 in
theorem walk_any {fan : Nat} {w : World} {o m b : Nat} {to : ByteArray} {most : Int} (key : ByteArray) : ∀ (h : Nat) (p : Nat) (t : T) (W : World) (l : List Res) (acc : List E), NodeAt h w p t → Kd fan h t → Sorted (toL h t) → fan ≤ 64 → t.keys.length < fan →
    Sep w W (collRes o m b to most acc :: l) → acc.length + (filt key (toL h t)).length ≤ 100000 →
    Calls Try.prog 34 #[.pointer (some ⟨p, 0, none⟩), .string key, .func (Fn.func 35) #[] #[.pointer (some ⟨o, 0, none⟩), .pointer (some ⟨m, 0, none⟩), .pointer (some ⟨b, 0, none⟩)]] W fun r W' =>
      r = .returned (.bool (runL to most (filt key (toL h t)) acc).2) ∧ Sep w W' (collRes o m b to most (runL to most (filt key (toL h t)) acc).1 :: l) := by
  intro h
  induction h with
  | zero =>
    intro p t W l acc hn hk hs hfan hlt hsep hacc
    have hks : Sorted t.keys := hs.sublist hk.keys
    have hfirst := restT_first hk hs key
    obtain ⟨kp, kq, cp, cq, ps, hpl, hb, hkr, hcr, hsub⟩ := hn.open
    have HF := Lib.hid hfirst
    have HN := Lib.hid hn
    have HKS := Lib.hid hks
    have HPL := Lib.hid hpl
    have HSUB := Lib.hid hsub
    have HCR := Lib.hid hcr
    have HKR := Lib.hid hkr
    have HK := Lib.hid hk
    have HS := Lib.hid hs
    have HB := Lib.hid hb
    have HSEP := Lib.hid hsep
    have HACC := Lib.hid hacc
    clear hn hks hpl hsub hcr hkr hk hs hb hsep hacc hfirst
    go_enter Try.func34, Try.ntmps34
    go_wp2_with fail
    refine (find_any (HN.out.only HSEP.out.old) (by omega) HKS.out key).mono ?_
    rintro r w1 ⟨rfl, o1⟩
    have HSEP1 := Lib.hid (HSEP.out.only o1); clear o1 HSEP
    go_wp2_with fail
    go_loopw [7] (fun s7 wr => ∃ (i : Nat) (acc' : List E), s7 = .int .i64 i ∧ i ≤ t.keys.length + 1 ∧ runL to most (restT key (0) t i) acc' = runL to most (filt key (toL (0) t)) acc ∧ acc'.length + (restT key (0) t i).length ≤ 100000 ∧ Sep w wr (collRes o m b to most acc' :: l)) (fun s7 _ => t.keys.length + 1 - (intOf s7).toNat)
    case atStart => exact ⟨below t.keys key, acc, rfl, by have := below_le t.keys key; omega, by rw [HF.out], by rw [HF.out]; exact HACC.out, HSEP1.out⟩
    case round =>
      clear HSEP1 HF HACC
      obtain ⟨i, acc', rfl, hi, hrun, hacc, hsep⟩ := hrel
      have HRUN := Lib.hid hrun; clear hrun
      have HSEP := Lib.hid hsep; clear hsep
      have k0 := (HSEP.out.old.cell (block_lt_of_cell (cell_of_block HB.out 0 (v := .slice kp t.keys.length kq) rfl)) (by simp)).trans (cell_of_block HB.out 0 (v := .slice kp t.keys.length kq) rfl)
      have k1 := (HSEP.out.old.cell (block_lt_of_cell (cell_of_block HB.out 1 (v := .slice cp ps.length cq) rfl)) (by simp)).trans (cell_of_block HB.out 1 (v := .slice cp ps.length cq) rfl)
      by_cases hin : i ≤ t.keys.length
      · have hin' : (i : Int) ≤ (t.keys.length : Int) := by omega
        have h0 : ps.length = 0 := by rw [HPL.out, show t.kids = [] from HK.out]; rfl
        rw [h0] at k1
        have hrun2 := HRUN.out
        have hacc2 := hacc
        rw [restT_leaf] at hrun2 hacc2
        clear HRUN hacc
        by_cases hlt2 : i < t.keys.length
        · obtain ⟨e, he⟩ : ∃ e, t.keys[i]? = some e := ⟨_, List.getElem?_eq_getElem hlt2⟩
          obtain ⟨g, rfl, c1, c2⟩ := keyCells HKR.out he
          have d1 := (HSEP.out.old.cell (block_lt_of_cell c1) (by simp)).trans c1
          have d2 := (HSEP.out.old.cell (block_lt_of_cell c2) (by simp)).trans c2
          rw [he] at hrun2 hacc2
          simp only [tailR, runL, List.length_cons] at hrun2 hacc2
          have HRUN2 := Lib.hid hrun2; clear hrun2 he c1 c2
          have hlt2' : (i : Int) < (t.keys.length : Int) := by omega
          go_wp2_with fail
          refine (fn_any HSEP.out (by omega) e).mono ?_
          rintro r w3 ⟨rfl, hs3⟩
          have HS3 := Lib.hid hs3; clear hs3
          have hfl := fnR_len to most acc' e
          generalize fnR to most acc' e = F at HRUN2 HS3 hfl ⊢
          obtain ⟨acc3, f3⟩ := F
          simp only at HRUN2 HS3 hfl ⊢
          cases f3 with
          | false =>
            have HV := Lib.hid (show runL to most (filt key (toL (0) t)) acc = (acc3, false) from by rw [← HRUN2.out]; simp)
            go_wp2_with fail
            go_ret
            exact ⟨by rw [HV.out]; rfl, by rw [HV.out]; exact HS3.out⟩
          | true =>
            have HV := Lib.hid (show runL to most (restT key (0) t (i + 1)) acc3 = runL to most (filt key (toL (0) t)) acc from by rw [← HRUN2.out]; simp)
            go_wp2_with fail
            go_roundw
            case rel => exact ⟨i + 1, acc3, by go_num, by omega, HV.out, by omega, HS3.out⟩
            case measure => simp [intOf]; omega
        · have hie : i = t.keys.length := by omega
          have hlt2' : ¬ ((i : Int) < (t.keys.length : Int)) := by omega
          have he : t.keys[i]? = none := List.getElem?_eq_none (by omega)
          have hend := restT_end key HK.out (i := i + 1) (by omega)
          rw [he] at hrun2 hacc2
          simp only [tailR] at hrun2 hacc2
          have HV := Lib.hid (show runL to most (restT key (0) t (i + 1)) acc' = runL to most (filt key (toL (0) t)) acc from by rw [hend]; exact hrun2)
          have HL := Lib.hid (show acc'.length + (restT key (0) t (i + 1)).length ≤ 100000 from by rw [hend]; simp at hacc2 ⊢; omega)
          clear hrun2 hacc2 he hend hie
          go_wp2_with fail
          go_roundw
          case rel => exact ⟨i + 1, acc', by go_num, by omega, HV.out, HL.out, HSEP.out⟩
          case measure => simp [intOf]; omega
      · have hin' : ¬ ((i : Int) ≤ (t.keys.length : Int)) := by omega
        have hrun2 := HRUN.out
        rw [restT_end key HK.out (by omega), runL] at hrun2
        have HV := Lib.hid hrun2.symm; clear hrun2 HRUN
        go_wp2_with fail
        go_ret
        exact ⟨by rw [HV.out]; rfl, by rw [HV.out]; exact HSEP.out⟩
  | succ h ih =>
    intro p t W l acc hn hk hs hfan hlt hsep hacc
    have IH := Lib.hid ih; clear ih
    have hks : Sorted t.keys := hs.sublist hk.keys
    have hfirst := restT_first hk hs key
    obtain ⟨kp, kq, cp, cq, ps, hpl, hb, hkr, hcr, hsub⟩ := hn.open
    have HF := Lib.hid hfirst
    have HN := Lib.hid hn
    have HKS := Lib.hid hks
    have HPL := Lib.hid hpl
    have HSUB := Lib.hid hsub
    have HCR := Lib.hid hcr
    have HKR := Lib.hid hkr
    have HK := Lib.hid hk
    have HS := Lib.hid hs
    have HB := Lib.hid hb
    have HSEP := Lib.hid hsep
    have HACC := Lib.hid hacc
    clear hn hks hpl hsub hcr hkr hk hs hb hsep hacc hfirst
    go_enter Try.func34, Try.ntmps34
    go_wp2_with fail
    refine (find_any (HN.out.only HSEP.out.old) (by omega) HKS.out key).mono ?_
    rintro r w1 ⟨rfl, o1⟩
    have HSEP1 := Lib.hid (HSEP.out.only o1); clear o1 HSEP
    go_wp2_with fail
    go_loopw [7] (fun s7 wr => ∃ (i : Nat) (acc' : List E), s7 = .int .i64 i ∧ i ≤ t.keys.length + 1 ∧ runL to most (restT key (h + 1) t i) acc' = runL to most (filt key (toL (h + 1) t)) acc ∧ acc'.length + (restT key (h + 1) t i).length ≤ 100000 ∧ Sep w wr (collRes o m b to most acc' :: l)) (fun s7 _ => t.keys.length + 1 - (intOf s7).toNat)
    case atStart => exact ⟨below t.keys key, acc, rfl, by have := below_le t.keys key; omega, by rw [HF.out], by rw [HF.out]; exact HACC.out, HSEP1.out⟩
    case round =>
      clear HSEP1 HF HACC
      obtain ⟨i, acc', rfl, hi, hrun, hacc, hsep⟩ := hrel
      have HRUN := Lib.hid hrun; clear hrun
      have HSEP := Lib.hid hsep; clear hsep
      have k0 := (HSEP.out.old.cell (block_lt_of_cell (cell_of_block HB.out 0 (v := .slice kp t.keys.length kq) rfl)) (by simp)).trans (cell_of_block HB.out 0 (v := .slice kp t.keys.length kq) rfl)
      have k1 := (HSEP.out.old.cell (block_lt_of_cell (cell_of_block HB.out 1 (v := .slice cp ps.length cq) rfl)) (by simp)).trans (cell_of_block HB.out 1 (v := .slice cp ps.length cq) rfl)
      by_cases hin : i ≤ t.keys.length
      · have hin' : (i : Int) ≤ (t.keys.length : Int) := by omega
        obtain ⟨q', hq', hn'⟩ := NodeAt.kid (W := w) (p := p) HPL.out HK.out HSUB.out (i := i) hin
        obtain ⟨gc, rfl, c3⟩ := kid_cell HCR.out hq'
        have c4 := (HSEP.out.old.cell (block_lt_of_cell c3) (by simp)).trans c3
        have hpl0 : 0 < ps.length := by have := HK.out.1; have := HPL.out; omega
        have hbl2 : i < ps.length := by have := HK.out.1; have := HPL.out; omega
        have hkid := HK.out.2 t.kids[i]! (by rw [getElem!_pos t.kids i (by have := HK.out.1; omega)]; exact List.getElem_mem _)
        have hkso : Sorted (toL h t.kids[i]!) := by
          obtain ⟨ka, kb, ca, c, cb, ht, e1, e2, e3⟩ := T.cut HK.out.1 hin
          have hc0 : t.kids[i]! = c := by rw [ht]; exact get_mid e2
          have := HS.out
          rw [ht, toL_mid h (by omega)] at this
          rw [hc0]
          exact (List.pairwise_append.1 (List.pairwise_append.1 this).2.1).1
        have hrun2 := HRUN.out
        have hacc2 := hacc
        rw [restT_node key HK.out hin] at hrun2 hacc2
        rw [runL_append] at hrun2
        rw [List.length_append] at hacc2
        have HN' := Lib.hid hn'
        have HKID := Lib.hid hkid
        have HKSO := Lib.hid hkso
        have HRUN2' := Lib.hid hrun2
        clear hn' hkid hkso hrun2 hq' c3 HRUN hacc
        obtain ⟨c, hc⟩ : ∃ c, c = t.kids[i]! := ⟨_, rfl⟩
        rw [← hc] at HN' HKID HKSO HRUN2' hacc2
        have HC := Lib.hid hc; clear hc
        go_wp2_with fail
        refine (IH.out q' c _ l acc' HN'.out HKID.out.1 HKSO.out hfan HKID.out.2.2 HSEP.out (by omega)).mono ?_
        rintro r w2 ⟨rfl, hs2⟩
        have HS2 := Lib.hid hs2; clear hs2
        have hrl := runL_len to most (filt key (toL h c)) acc'
        have hrun2 := HRUN2'.out
        clear HRUN2'
        generalize runL to most (filt key (toL h c)) acc' = F at hrun2 HS2 hrl ⊢
        obtain ⟨acc2, f2⟩ := F
        simp only at hrun2 HS2 hrl ⊢
        have hacc2 : acc2.length + (tailR t.keys[i]? (restT key (h + 1) t (i + 1))).length ≤ 100000 := by omega
        cases f2 with
        | false =>
          have HV := Lib.hid (show runL to most (filt key (toL (h + 1) t)) acc = (acc2, false) from by rw [← hrun2]; simp)
          clear hrun2 hacc2
          go_wp2_with fail
          go_ret
          exact ⟨by rw [HV.out]; rfl, by rw [HV.out]; exact HS2.out⟩
        | true =>
          simp only [if_true] at hrun2
          have k0 := (HS2.out.old.cell (block_lt_of_cell (cell_of_block HB.out 0 (v := .slice kp t.keys.length kq) rfl)) (by simp)).trans (cell_of_block HB.out 0 (v := .slice kp t.keys.length kq) rfl)
          by_cases hlt2 : i < t.keys.length
          · obtain ⟨e, he⟩ : ∃ e, t.keys[i]? = some e := ⟨_, List.getElem?_eq_getElem hlt2⟩
            obtain ⟨g, rfl, c1, c2⟩ := keyCells HKR.out he
            have d1 := (HS2.out.old.cell (block_lt_of_cell c1) (by simp)).trans c1
            have d2 := (HS2.out.old.cell (block_lt_of_cell c2) (by simp)).trans c2
            rw [he] at hrun2 hacc2
            simp only [tailR, runL, List.length_cons] at hrun2 hacc2
            have HRUN2 := Lib.hid hrun2; clear hrun2 he c1 c2
            have hlt2' : (i : Int) < (t.keys.length : Int) := by omega
            go_wp2_with fail
            refine (fn_any HS2.out (by omega) e).mono ?_
            rintro r w3 ⟨rfl, hs3⟩
            have HS3 := Lib.hid hs3; clear hs3
            have hfl := fnR_len to most acc2 e
            generalize fnR to most acc2 e = F at HRUN2 HS3 hfl ⊢
            obtain ⟨acc3, f3⟩ := F
            simp only at HRUN2 HS3 hfl ⊢
            cases f3 with
            | false =>
              have HV := Lib.hid (show runL to most (filt key (toL (h + 1) t)) acc = (acc3, false) from by rw [← HRUN2.out]; simp)
              go_wp2_with fail
              go_ret
              exact ⟨by rw [HV.out]; rfl, by rw [HV.out]; exact HS3.out⟩
            | true =>
              have HV := Lib.hid (show runL to most (restT key (h + 1) t (i + 1)) acc3 = runL to most (filt key (toL (h + 1) t)) acc from by rw [← HRUN2.out]; simp)
              go_wp2_with fail
              go_roundw
              case rel => exact ⟨i + 1, acc3, by go_num, by omega, HV.out, by omega, HS3.out⟩
              case measure => simp [intOf]; omega
          · have hie : i = t.keys.length := by omega
            have hlt2' : ¬ ((i : Int) < (t.keys.length : Int)) := by omega
            have he : t.keys[i]? = none := List.getElem?_eq_none (by omega)
            have hend := restT_end key HK.out (i := i + 1) (by omega)
            rw [he] at hrun2 hacc2
            simp only [tailR] at hrun2 hacc2
            have HV := Lib.hid (show runL to most (restT key (h + 1) t (i + 1)) acc2 = runL to most (filt key (toL (h + 1) t)) acc from by rw [hend]; exact hrun2)
            have HL := Lib.hid (show acc2.length + (restT key (h + 1) t (i + 1)).length ≤ 100000 from by rw [hend]; simp at hacc2 ⊢; omega)
            clear hrun2 hacc2 he hend hie
            go_wp2_with fail
            go_roundw
            case rel => exact ⟨i + 1, acc2, by go_num, by omega, HV.out, HL.out, HS2.out⟩
            case measure => simp [intOf]; omega
      · have hin' : ¬ ((i : Int) ≤ (t.keys.length : Int)) := by omega
        have hrun2 := HRUN.out
        rw [restT_end key HK.out (by omega), runL] at hrun2
        have HV := Lib.hid hrun2.symm; clear hrun2 HRUN
        go_wp2_with fail
        go_ret
        exact ⟨by rw [HV.out]; rfl, by rw [HV.out]; exact HSEP.out⟩

/-- The keys between two, so many at most. -/
def rangeL (L : List E) (key to : ByteArray) (most : Int) : List E := (runL to most (filt key L) []).1

set_option maxRecDepth 100000 in
set_option maxHeartbeats 1000000 in
theorem range_any {W : World} {q fan : Nat} {L : List E} (hT : TreeAt W q fan L) (hlen : L.length ≤ 100000) (key to : ByteArray) (most : Int) :
    Calls Try.prog 16 #[.pointer (some ⟨q, 0, none⟩), .string key, .string to, .int .i64 most] W fun r W' =>
      ∃ p' q', r = .returned (.slice p' (rangeL L key to most).length q') ∧ Sep W W' [rowRes 31 2 (.slice p' (rangeL L key to most).length q') (rangeL L key to most).length (cellsE (rangeL L key to most))] := by
  obtain ⟨p, h, t, hb, hn, hr, hL, hf1, hf2⟩ := hT.open
  have hs0 : Sep W (((W.alloc (.cells #[.string to] 9)).alloc (.cells #[.int .i64 most] 3)).alloc (.cells #[.slice none 0 0] 32)) [collRes (W.heap.size + 1 + 1) (W.heap.size + 1) W.heap.size to most []] := by
    have h1 := (((Sep.nil W).alloc #[.string to] 9).alloc #[.int .i64 most] 3).alloc #[.slice none 0 0] 32
    have h2 := (h1.row_nil 31 2).up1
    refine Sep.close (none, 0) ?_ trivial
    simpa [collParts, cellsE] using h2
  have k1 := (hs0.old.cell (block_lt_of_cell (cell_of_block hb 1 (v := .pointer (some ⟨p, 0, none⟩)) rfl)) (by simp)).trans (cell_of_block hb 1 (v := .pointer (some ⟨p, 0, none⟩)) rfl)
  have hfl : (filt key (toL h t)).length ≤ L.length := by unfold filt; rw [hL, List.length_drop]; omega
  have HS0 := Lib.hid hs0
  have HN := Lib.hid hn
  have HR := Lib.hid hr
  have HL := Lib.hid hL
  clear hs0 hn hr hL hb hT
  go_enter Try.func16, Try.ntmps16
  go_wp2_with fail
  refine (walk_any key h p t _ [] [] HN.out HR.out.kd HR.out.sorted hf2 HR.out.lt HS0.out (by simp; omega)).mono ?_
  rintro r w1 ⟨rfl, hs1⟩
  rw [HL.out] at hs1
  have hs2 : Sep W w1 [collRes (W.heap.size + 1 + 1) (W.heap.size + 1) W.heap.size to most (rangeL L key to most)] := hs1
  obtain ⟨⟨p', q'⟩, hs3, _⟩ := hs2.open
  simp only [collParts, List.cons_append, List.nil_append] at hs3
  have o0 := cell_of_block hs3.blk 0 (v := .slice p' (rangeL L key to most).length q') rfl
  have HF := Lib.hid (hs3.up1.perm ((List.Perm.cons _ (List.Perm.refl _)) : List.Perm _ (_ :: _)))
  have HG : Hid (Sep W w1 [rowRes 31 2 (.slice p' (rangeL L key to most).length q') (rangeL L key to most).length (cellsE (rangeL L key to most))]) := by
    obtain ⟨F, ⟨F1, F2, rfl, h1, _, _⟩, h4, h5⟩ := hs3.up1
    exact ⟨F1, ⟨F1, [], by simp, h1, rfl, by simp⟩, h4, fun k hk => h5 k (List.mem_append_left _ hk)⟩
  clear hs1 hs2 hs3 HF
  go_wp2_with fail
  go_ret
  exact ⟨p', q', rfl, HG.out⟩

end Go.Proofs.Ytpaffpiaoanegaa
