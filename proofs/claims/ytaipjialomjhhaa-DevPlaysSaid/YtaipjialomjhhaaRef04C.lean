/-
  What is proved here: the reference's device: Crash and New, in the words of the plain device.
  Conditions: as in Ref04; what is kept lies in memory that is older than the device.
-/
import Derived.Test.YtaipjialomjhhaaRef04W
namespace Go.Proofs.Ytaipjialomjhhaa
open Go.RowKit

theorem put_none' (j : Nat) : ∀ (h : List (Nat × ByteArray)) (l : List ByteArray), (∀ p ∈ h, p.1 ≠ j) → (h.foldl DevS.put l)[j]? = l[j]?
  | [], l, _ => rfl
  | p :: h, l, hc => by
    rw [List.foldl_cons, put_none' j h _ (fun q hq => hc q (by simp [hq])), DevS.put, List.getElem?_set_ne (hc p (by simp))]
theorem tear_none' (j : Nat) : ∀ (h : List ((Nat × ByteArray) × Int)) (l : List ByteArray), (∀ p ∈ h, p.1.1 ≠ j) → (h.foldl DevS.tear l)[j]? = l[j]?
  | [], l, _ => rfl
  | p :: h, l, hc => by
    rw [List.foldl_cons, tear_none' j h _ (fun q hq => hc q (by simp [hq])), DevS.tear, List.getElem?_set_ne (hc p (by simp))]
theorem back_at' (sf : List ByteArray) (j : Nat) : ∀ (h : List (Nat × ByteArray)) (l : List ByteArray), l.length = sf.length → ((∃ p ∈ h, p.1 = j) ∨ l[j]? = sf[j]?) → (h.foldl (DevS.back sf) l)[j]? = sf[j]?
  | [], l, _, hd => by
    rcases hd with ⟨p, hp, _⟩ | q
    · simp at hp
    · exact q
  | p :: h, l, hl, hd => by
    refine back_at' sf j h _ (by simpa [DevS.back] using hl) ?_
    have hset : p.1 = j → (DevS.back sf l p)[j]? = sf[j]? := by
      intro e
      subst e
      simp only [DevS.back]
      by_cases hlt : p.1 < sf.length
      · rw [List.getElem?_set_self (by omega)]
        simp [hlt]
      · rw [List.getElem?_eq_none (by simp; omega), List.getElem?_eq_none (by omega)]
    by_cases e : p.1 = j
    · exact .inr (hset e)
    · rcases hd with ⟨q, hq, he⟩ | q
      · rcases List.mem_cons.1 hq with r | r
        · subst r; exact absurd he e
        · exact .inl ⟨q, r, he⟩
      · right
        simp only [DevS.back]
        rw [List.getElem?_set_ne e]; exact q


theorem tear_one' {l : List ByteArray} {p : Nat × ByteArray} (hl : p.1 < l.length) (hs : ∀ s ∈ l, s.size = 512) (hp : p.2.size = 512) : DevS.tear l (p, 1) = l.set p.1 p.2 := by
  have ht : (l.getD p.1 ByteArray.empty).size = 512 := hs _ (by simp [hl])
  simp only [DevS.tear]
  congr 1
  rw [show DevS.kept 1 = 512 from rfl, ← torn_eq]
  rw [← ht, ByteArray.extract_same, ByteArray.append_empty, ht, ← hp, ByteArray.extract_zero_size]
theorem tear_no {l : List ByteArray} {p : Nat × ByteArray} {c : Int} (hl : p.1 < l.length) (hc : DevS.kept c = 0) : DevS.tear l (p, c) = l := by
  simp only [DevS.tear, hc]
  have : DevS.torn p.2 (l.getD p.1 ByteArray.empty) 0 = l[p.1] := by
    apply ByteArray.ext
    apply Array.ext'
    simp [DevS.torn, hl]
  rw [this, List.set_getElem_self]

/-- Behind a crash what is seen is what is safe. -/
theorem crash_coh {d : DevS} (h : d.Coh) (hwf : d.Wf) (keep : List Int) : (d.crash keep).now = d.crashed keep := by
  simp only [DevS.crash]
  apply List.ext_getElem?
  intro j
  refine back_at' (d.crashed keep) j d.held d.now ?_ ?_
  · simp [DevS.crashed, tearAll_length, hwf.same]
  · by_cases hc : ∃ p ∈ d.held, p.1 = j
    · exact .inl hc
    · right
      rw [← h, put_none' j d.held d.safe (fun p hp e => hc ⟨p, hp, e⟩), DevS.crashed, tear_none' j]
      intro p hp e
      exact hc ⟨p.1, (List.of_mem_zip hp).1, e⟩

/-- How memory stands in the loop of Crash, after k rounds. -/
def refTorn (b : Nat) (d : DevS) (x : RefAt) (keep : List Int) (k : Nat) : List Res :=
  [blkRes b (.cells (refCells x d) 73 (0, 0)), rowRes 9 1 (.slice x.sp d.now.length x.sq) d.now.length (texts d.now),
   rowRes 9 1 (.slice x.tp d.safe.length x.tq) d.safe.length (texts (((d.held.zip keep).take k).foldl DevS.tear d.safe)),
   rowRes 75 2 (.slice x.hp d.held.length x.hq) d.held.length (heldCells d.held)]

section
variable {w W : World} {b : Nat} {d : DevS} {l : List Res}

theorem kept_if (c : Int) (h1 : c ≠ 1) (h2 : ¬ (2 ≤ c ∧ c ≤ 513)) : DevS.kept c = 0 := by
  unfold DevS.kept
  rw [if_neg h1, if_neg h2]

set_option maxRecDepth 100000 in
set_option maxHeartbeats 2000000 in
theorem ref_crash (kp : Option Addr) (kq : Nat) (keep : List Int) (h : Sep w W (refRes b d :: l)) (hheld : d.held.length ≤ 1000000) (hk : IntsAt w kp keep) :
    Calls Try.prog 26 #[.pointer (some ⟨b, 0, none⟩), .slice kp keep.length kq] W fun e W' => e = .returned (.tuple #[]) ∧ Sep w W' (refRes b (d.crash keep) :: l) := by
  obtain ⟨x, hs, hwf, hc⟩ := h.open
  have hfew := hwf.few
  have HWF := Lib.hid hwf; clear hwf
  have HC := Lib.hid hc; clear hc
  have HK := Lib.hid hk; clear hk
  have HS := Lib.hid hs; clear hs h
  go_enter Try.func26, Try.ntmps26
  go_wp2_with fail
  go_loopw [4] (fun i wr => ∃ k : Nat, k ≤ d.held.length ∧ i = .int .i64 k ∧ Sep w wr (refTorn b d x keep k ++ l)) (fun i _ => d.held.length - (intOf i).toNat)
  case atStart => exact ⟨0, Nat.zero_le _, rfl, HS.out⟩
  case round =>
    obtain ⟨k, hk1, rfl, hs⟩ := hrel
    have HT := Lib.hid hs; clear hs
    have hb := Sep.blk HT.out
    have h2 : wr.cell? ⟨b, 2, none⟩ = some (.slice x.hp d.held.length x.hq) := cell_of_block hb 2 rfl
    by_cases hlt : k < d.held.length
    · have hrow : Sep w wr (rowRes 75 2 (.slice x.hp d.held.length x.hq) d.held.length (heldCells d.held) :: _) := Sep.up3 HT.out
      obtain ⟨g, hg⟩ := hrow.rowAt (by rw [hrow.row.1]; omega)
      rw [hg] at hrow h2
      have hx := heldCells_at d.held k hlt
      obtain ⟨c0, _⟩ := hrow.rowCell hx.1
      obtain ⟨c1, _⟩ := hrow.rowCell hx.2
      have hwfk := HWF.out.held d.held[k] (List.getElem_mem hlt)
      have hat := hwfk.1
      have hws : d.held[k].2.size = 512 := hwfk.2
      have HWS := Lib.hid hws; clear hws hwfk hrow
      have hz : k < keep.length → k < (d.held.zip keep).length := by intro q; simp; omega
      have hstep : ∀ q : k < keep.length, ((d.held.zip keep).take (k + 1)).foldl DevS.tear d.safe = DevS.tear (((d.held.zip keep).take k).foldl DevS.tear d.safe) (d.held[k], keep[k]) := by
        intro q
        rw [List.take_succ_eq_append_getElem (hz q), List.foldl_append]
        simp
      have hstay : ¬ k < keep.length → ((d.held.zip keep).take (k + 1)).foldl DevS.tear d.safe = ((d.held.zip keep).take k).foldl DevS.tear d.safe := by
        intro q
        rw [List.take_of_length_le (by simp; omega), List.take_of_length_le (by simp; omega)]
      have hlen : (((d.held.zip keep).take k).foldl DevS.tear d.safe).length = d.now.length := by rw [tearAll_length, HWF.out.same]
      have hsz : ∀ s ∈ ((d.held.zip keep).take k).foldl DevS.tear d.safe, s.size = 512 := by
        intro s hs'
        obtain ⟨i, hi, rfl⟩ := List.getElem_of_mem hs'
        have hl : i < d.safe.length := by rw [tearAll_length] at hi; exact hi
        have := tear_size ((d.held.zip keep).take k) d.safe HWF.out.safe (fun y hy => (HWF.out.held y.1 (List.of_mem_zip (List.mem_of_mem_take hy)).1).2) hl
        rw [← this]
        congr 1
        rw [List.getD_eq_getElem?_getD, List.getElem?_eq_getElem hi]
        rfl
      have HSTEP := Lib.hid hstep; clear hstep
      have HSTAY := Lib.hid hstay; clear hstay
      have HLEN := Lib.hid hlen; clear hlen
      have HSZ := Lib.hid hsz; clear hsz
      have HNO : Hid (((d.held.zip keep).take (k + 1)).foldl DevS.tear d.safe = ((d.held.zip keep).take k).foldl DevS.tear d.safe → Sep w (wr.alloc (.cells #[.int .i64 (d.held[k].1 : Int), .string d.held[k].2] 75)) (refTorn b d x keep (k + 1) ++ l)) := by
        intro q
        have := HT.out.forget (.cells #[.int .i64 (d.held[k].1 : Int), .string d.held[k].2] 75)
        simp only [refTorn] at this ⊢
        rw [q]
        exact this
      by_cases hlk : k < keep.length
      · obtain ⟨kb, ko, hkp, hkb, hkc⟩ := HK.out k keep[k] (List.getElem?_eq_getElem hlk)
        have hold := HT.out.old
        have hkW : ∀ W', Only [] w W' → W'.cell? ⟨kb, ko + k, none⟩ = some (.int .i64 keep[k]) := fun W' ho => by rw [ho.cell hkb (by simp)]; exact hkc
        have k1 := hkW wr hold
        have HKW := Lib.hid hkW; clear hkW hkc hold
        have HSTEP2 := Lib.hid (HSTEP.out hlk)
        by_cases hone : keep[k] = 1
        · have hAlloc := HT.out.forget (.cells #[.int .i64 (d.held[k].1 : Int), .string d.held[k].2] 75)
          have hb1 : wr.heap[b]? = some _ := hb
          have hnW : (wr.alloc (.cells #[.int .i64 (d.held[k].1 : Int), .string d.held[k].2] 75)).heap[wr.heap.size]? = some (.cells #[.int .i64 (d.held[k].1 : Int), .string d.held[k].2] 75 (0, 0)) := heap_alloc_self
          have HA := Lib.hid hAlloc; clear hAlloc hb1 hb
          have HNW := Lib.hid hnW; clear hnW
          have hone' : (keep[k] == 1) = true := by rw [beq_iff_eq]; exact hone
          have HONE := Lib.hid hone; clear hone hx hz
          go_wp2_with fail
          generalize (wr.alloc (.cells #[.int .i64 (d.held[k].1 : Int), .string d.held[k].2] 75)) = V at *
          have g2 : V.cell? ⟨wr.heap.size, 0, none⟩ = some (.int .i64 (d.held[k].1 : Int)) := cell_of_block HNW.out 0 rfl
          have g3 : V.cell? ⟨wr.heap.size, 1, none⟩ = some (.string d.held[k].2) := cell_of_block HNW.out 1 rfl
          have hbV := Sep.blk HA.out
          have g1 : V.cell? ⟨b, 1, none⟩ = some (.slice x.tp d.safe.length x.tq) := cell_of_block hbV 1 rfl
          have hsrow : Sep w V (rowRes 9 1 (.slice x.tp d.safe.length x.tq) d.safe.length (texts (((d.held.zip keep).take k).foldl DevS.tear d.safe)) :: _) := Sep.up2 HA.out
          have hsame := HWF.out.same
          obtain ⟨gs, hgs⟩ := hsrow.rowAt (by simp [texts, HLEN.out]; omega)
          rw [hgs] at g1
          rw [hgs] at hsrow
          obtain ⟨gc, gf⟩ := hsrow.rowCell (texts_at (((d.held.zip keep).take k).foldl DevS.tear d.safe) d.held[k].1 (by rw [HLEN.out]; exact hat))
          have hst := (hsrow.drew.rowStore d.held[k].1 (.string d.held[k].2)).dn2
          have HR : Hid (Sep w (V.drew.setCell ⟨gs, d.held[k].1, none⟩ (.string d.held[k].2)) (refTorn b d x keep (k + 1) ++ l)) := by
            show Sep w _ _
            simp only [refTorn]
            rw [HSTEP2.out, HONE.out, tear_one' (by rw [HLEN.out]; exact hat) HSZ.out HWS.out, hgs]
            simpa [texts, List.map_set] using hst
          generalize ((((d.held.zip keep).take k).foldl DevS.tear d.safe).getD d.held[k].1 ByteArray.empty) = t at *
          clear hst hsrow hbV
          have l1 : d.held[k].1 < d.safe.length := by omega
          clear c0 c1 k1 h2 HNO
          go_region
          all_goals
            go_wp2_with fail
            go_roundw
            case rel => exact ⟨k + 1, by omega, by go_num, HR.out⟩
            case measure => simp [intOf]; omega
        · by_cases hmid : 2 ≤ keep[k] ∧ keep[k] ≤ 513
          · have hAlloc := HT.out.forget (.cells #[.int .i64 (d.held[k].1 : Int), .string d.held[k].2] 75)
            have hb1 : wr.heap[b]? = some _ := hb
            have hnW : (wr.alloc (.cells #[.int .i64 (d.held[k].1 : Int), .string d.held[k].2] 75)).heap[wr.heap.size]? = some (.cells #[.int .i64 (d.held[k].1 : Int), .string d.held[k].2] 75 (0, 0)) := heap_alloc_self
            have HA := Lib.hid hAlloc; clear hAlloc hb1 hb
            have HNW := Lib.hid hnW; clear hnW
            have hone' : (keep[k] == 1) = false := by rw [beq_eq_false_iff_ne]; exact hone
            obtain ⟨m1, m2⟩ := hmid
            have hkd : ((DevS.kept keep[k] : Nat) : Int) = keep[k] - 2 := by unfold DevS.kept; rw [if_neg hone, if_pos ⟨m1, m2⟩]; omega
            obtain ⟨m, hm⟩ : ∃ m, m = DevS.kept keep[k] := ⟨_, rfl⟩
            rw [← hm] at hkd
            have HM := Lib.hid hm; clear hm
            obtain ⟨c, hc⟩ : ∃ c, c = keep[k] := ⟨_, rfl⟩
            rw [← hc] at hkd hone' m1 m2 k1
            have HCC := Lib.hid hc; clear hc hone hx hz
            obtain rfl : c = (m : Int) + 2 := by omega
            clear hkd
            have hm5 : m ≤ 511 := by omega
            go_wp2_with fail
            generalize (wr.alloc (.cells #[.int .i64 (d.held[k].1 : Int), .string d.held[k].2] 75)) = V at *
            have g2 : V.cell? ⟨wr.heap.size, 0, none⟩ = some (.int .i64 (d.held[k].1 : Int)) := cell_of_block HNW.out 0 rfl
            have g3 : V.cell? ⟨wr.heap.size, 1, none⟩ = some (.string d.held[k].2) := cell_of_block HNW.out 1 rfl
            have hbV := Sep.blk HA.out
            have g1 : V.cell? ⟨b, 1, none⟩ = some (.slice x.tp d.safe.length x.tq) := cell_of_block hbV 1 rfl
            have hsrow : Sep w V (rowRes 9 1 (.slice x.tp d.safe.length x.tq) d.safe.length (texts (((d.held.zip keep).take k).foldl DevS.tear d.safe)) :: _) := Sep.up2 HA.out
            have hsame := HWF.out.same
            obtain ⟨gs, hgs⟩ := hsrow.rowAt (by simp [texts, HLEN.out]; omega)
            rw [hgs] at g1
            rw [hgs] at hsrow
            obtain ⟨gc, gf⟩ := hsrow.rowCell (texts_at (((d.held.zip keep).take k).foldl DevS.tear d.safe) d.held[k].1 (by rw [HLEN.out]; exact hat))
            have hst := (hsrow.drew.rowStore d.held[k].1 (.string (DevS.torn d.held[k].2 ((((d.held.zip keep).take k).foldl DevS.tear d.safe).getD d.held[k].1 ByteArray.empty) m))).dn2
            have hts : ((((d.held.zip keep).take k).foldl DevS.tear d.safe).getD d.held[k].1 ByteArray.empty).size = 512 := HSZ.out _ (by simp [HLEN.out, hat])
            have HR : Hid (Sep w (V.drew.setCell ⟨gs, d.held[k].1, none⟩ (.string (DevS.torn d.held[k].2 ((((d.held.zip keep).take k).foldl DevS.tear d.safe).getD d.held[k].1 ByteArray.empty) m))) (refTorn b d x keep (k + 1) ++ l)) := by
              show Sep w _ _
              simp only [refTorn]
              rw [HSTEP2.out, hgs, HM.out]
              rw [HM.out] at hst
              simpa [texts, List.map_set, DevS.tear] using hst
            have s1 : m ≤ ((((d.held.zip keep).take k).foldl DevS.tear d.safe).getD d.held[k].1 ByteArray.empty).size := by rw [hts]; omega
            have s2 : m ≤ d.held[k].2.size := by rw [HWS.out]; omega
            have s3 : ((((d.held.zip keep).take k).foldl DevS.tear d.safe).getD d.held[k].1 ByteArray.empty).size ≤ 512 := by rw [hts]; exact Nat.le_refl _
            clear hts
            generalize ((((d.held.zip keep).take k).foldl DevS.tear d.safe).getD d.held[k].1 ByteArray.empty) = t at *
            clear hst hsrow hbV
            have l1 : d.held[k].1 < d.safe.length := by omega
            clear c0 c1 k1 h2 HNO
            go_region
            all_goals
              go_wp2_with fail
              go_roundw
              case rel => exact ⟨k + 1, by omega, by go_num, by rw [torn_eq]; exact HR.out⟩
              case measure => simp [intOf]; omega
          · have hone' : (keep[k] == 1) = false := by rw [beq_eq_false_iff_ne]; exact hone
            have HN := Lib.hid (HNO.out (by rw [HSTEP2.out]; exact tear_no (by rw [HLEN.out]; exact hat) (kept_if _ hone hmid)))
            have hcase : keep[k] < 2 ∨ (2 ≤ keep[k] ∧ 513 < keep[k]) := by omega
            obtain ⟨c, hc⟩ : ∃ c, c = keep[k] := ⟨_, rfl⟩
            rw [← hc] at hone' hcase k1
            clear hc hone hmid hz hx hb
            rcases hcase with h1 | ⟨h1, h2'⟩
            all_goals
              go_wp2_with fail
              go_roundw
              case rel => exact ⟨k + 1, by omega, by go_num, HN.out⟩
              case measure => simp [intOf]; omega
      · have HN := Lib.hid (HNO.out (HSTAY.out hlk))
        clear hz hx hb
        go_wp2_with fail
        go_roundw
        case rel => exact ⟨k + 1, by omega, by go_num, HN.out⟩
        case measure => simp [intOf]; omega
    · obtain rfl : k = d.held.length := by omega
      have hfull : ((d.held.zip keep).take d.held.length).foldl DevS.tear d.safe = d.crashed keep := by
        rw [List.take_of_length_le (by simp; omega)]
        rfl
      have f2 := free_of_block hb 2
      have HF := Lib.hid hfull; clear hfull hb
      have HS2 : Hid (Sep w (wr.setCell ⟨b, 2, none⟩ (.slice none 0 0)) (blkRes b (.cells ((refCells x d).setIfInBounds 2 (.slice none 0 0)) 73 (0, 0)) :: rowRes 9 1 (.slice x.tp d.safe.length x.tq) d.safe.length (texts (d.crashed keep)) :: rowRes 75 2 (.slice none 0 0) 0 [] :: l)) := by
        have s0 := HT.out
        simp only [refTorn, HF.out] at s0
        have s1 := Sep.store s0 2 (.slice none 0 0)
        have s2 := s1.up1.tail
        have s3 := (s2.up2.tail).row_nil 75 2
        exact s3.dn2
      have hm0 := HS2.out.row_made 9 1
      rw [show (wr.setCell ⟨b, 2, none⟩ (.slice none 0 0)).heap.size = wr.heap.size from by simp] at hm0
      have HM := Lib.hid hm0; clear hm0
      have hb3 : ((wr.setCell ⟨b, 2, none⟩ (.slice none 0 0)).alloc (.cells #[] 9)).heap[b]? = some _ := HM.out.up1.blk
      have e1 : ((wr.setCell ⟨b, 2, none⟩ (.slice none 0 0)).alloc (.cells #[] 9)).cell? ⟨b, 1, none⟩ = some (.slice x.tp d.safe.length x.tq) := cell_of_block hb3 1 rfl
      have HSRC := Lib.hid (row_src HS2.out.up1.row (Only.alloc [] _ (.cells #[] 9)))
      obtain ⟨is, IS⟩ := info_of Try.infoStr
      have hsame : d.safe.length ≤ 8192 := by rw [HWF.out.same]; exact hfew
      clear hb3
      go_wp2_with (at_builtin; go_must (refine wpList_append_src (w := w) (e := 9) rfl (.tmp 76) (.tmp 80) 56 rfl is _ 1 16 Try.undStrings IS.out rfl (by decide) _ 0 [] rfl x.tp d.safe.length x.tq (texts (d.crashed keep)) rfl (by simp [texts, DevS.crashed, tearAll_length]) HSRC.out (texts_one (d.crashed keep)) HM.out (by unfold maxLen; omega) (by omega) ?_))
      intro p' q' w5 hs5
      have hb5 := hs5.up1.blk
      have z0 : w5.cell? ⟨b, 0, none⟩ = some (.slice x.sp d.now.length x.sq) := cell_of_block hb5 0 rfl
      have z5 : w5.cell? ⟨b, 5, none⟩ = some (.bool d.armed) := cell_of_block hb5 5 rfl
      have z4 : w5.cell? ⟨b, 4, none⟩ = some (.int .i64 d.refused) := cell_of_block hb5 4 rfl
      have y0 := free_of_block hb5 0
      have y4 := free_of_block hb5 4
      have y5 := free_of_block hb5 5
      have hend : Sep w (((w5.setCell ⟨b, 0, none⟩ (.slice p' d.safe.length q')).setCell ⟨b, 5, none⟩ (.bool false)).setCell ⟨b, 4, none⟩ (.int .i64 0)) (refRes b (d.crash keep) :: l) := by
        have s1 := ((hs5.up1.store 0 (.slice p' d.safe.length q')).store 5 (.bool false)).store 4 (.int .i64 0)
        have hnow : (d.crash keep).now = d.crashed keep := crash_coh HC.out HWF.out keep
        have hl1 : (d.crash keep).now.length = d.safe.length := by rw [hnow]; simp [DevS.crashed, tearAll_length]
        have hl2 : (d.crash keep).safe.length = d.safe.length := by simp [DevS.crash, DevS.crashed, tearAll_length]
        refine Sep.close { x with sp := p', sq := q', hp := none, hq := 0 } ?_ ⟨crash_wf HWF.out keep, ?_⟩
        · simp only [refParts, refCells]
          rw [hl1, hl2, hnow]
          exact s1
        · unfold DevS.Coh
          rw [hnow]
          rfl
      have HE := Lib.hid hend; clear hend hs5 hb5
      go_wp2_with fail
      go_end0
      exact ⟨rfl, HE.out⟩
end
end Go.Proofs.Ytaipjialomjhhaa
