/-
  What is proved here: the statement DevSafe: what was flushed, and not written anew, is there behind any crash; each sector behind one is as it was, as it was written, or torn between the two; for every input.
  No condition.
-/
import Derived.Test.YtaipjialomjhhaaSteps
import Derived.Test.YtaipjialomjhhaaIntsRow
import Derived.Deep.DeepMust
import Derived.Deep.RegionHeld3
import Derived.Deep.DeepCutAuto
import Derived.Deep.QuietTactic
import Derived.BigQuiet
namespace Go.Proofs.Ytaipjialomjhhaa.devSafe
open Go.ChangeShapes Go.WideShapes Go.ChangeAt Go.RowKit Go.Proofs.Ytaipjialomjhhaa
set_option linter.unusedVariables false

/-- A device on which nothing is armed: what is seen is what is safe with what is held back put over it. -/
structure Inv (d : DevS) (i : Nat) : Prop where
  armed : d.armed = false
  refused : d.refused = 0
  n16 : d.now.length = 16
  held : d.held.foldl DevS.put d.safe = d.now
  few : d.held.length ≤ i

theorem Inv.down {d : DevS} {i : Nat} (h : Inv d i) : d.down = false := by simp [DevS.down, h.armed]

theorem Inv.write {d : DevS} {i : Nat} (h : Inv d i) (m : Nat) (hm : m < 16) (x : UInt8) :
    (d.write m (blk x)).1 = 0 ∧ (d.write m (blk x)).2.held = d.held ++ [(m, blk x)] ∧ (d.write m (blk x)).2.safe = d.safe ∧ Inv (d.write m (blk x)).2 (i + 1) := by
  have hn : (0 ≤ (m : Int) ∧ (m : Int) < (d.now.length : Int)) := by rw [h.n16]; omega
  have e : d.write m (blk x) = (0, DevS.store { d with refused := if 0 < d.refused then d.refused - 1 else d.refused } m (blk x)) := by
    simp only [DevS.write]
    rw [if_pos hn, if_pos (blk_size x), if_neg (by rw [h.down]; simp), if_neg (by rw [h.refused]; simp)]
  rw [e]
  refine ⟨rfl, by simp [DevS.store, DevS.did], rfl, h.armed, ?_, ?_, ?_, ?_⟩
  · simp [DevS.store, DevS.did, h.refused]
  · simpa [DevS.store, DevS.did] using h.n16
  · simp only [DevS.store, DevS.did, List.foldl_append, List.foldl_cons, List.foldl_nil, h.held, DevS.put, Int.toNat_natCast]
  · simpa [DevS.store, DevS.did] using h.few

theorem Inv.flush {d : DevS} {i : Nat} (h : Inv d i) : d.flush.1 = 0 ∧ d.flush.2.held = [] ∧ d.flush.2.safe = d.flush.2.now ∧ Inv d.flush.2 0 := by
  have e : d.flush = (0, DevS.did { d with safe := d.held.foldl DevS.put d.safe, held := [] }) := by
    simp only [DevS.flush]
    rw [if_neg (by rw [h.down]; simp)]
  rw [e]
  exact ⟨rfl, rfl, h.held, h.armed, h.refused, h.n16, h.held, Nat.zero_le _⟩

theorem Inv.read {d : DevS} {i : Nat} (h : Inv d i) (j : Nat) (hj : j < 16) : d.read j = (d.now.getD j ByteArray.empty, 0) := by
  simp only [DevS.read, h.down, h.n16]
  rw [if_pos (by omega), if_neg (by simp)]
  simp

/-- How often a place was written. -/
def times (d : DevS) (j : Nat) : Nat := d.held.countP fun p => p.1 == j

theorem times_write {d : DevS} {i : Nat} (h : Inv d i) (m : Nat) (hm : m < 16) (x : UInt8) (j : Nat) : times (d.write m (blk x)).2 j = if m = j then times d j + 1 else times d j := by
  unfold times
  rw [(h.write m hm x).2.1, List.countP_append]
  by_cases e : m = j <;> simp [e]

theorem put_none (j : Nat) : ∀ (h : List (Nat × ByteArray)) (l : List ByteArray), h.countP (fun p => p.1 == j) = 0 → (h.foldl DevS.put l)[j]? = l[j]?
  | [], l, _ => rfl
  | p :: h, l, hc => by
    rw [List.countP_cons] at hc
    have h1 : ¬ (p.1 == j) = true := by intro e; rw [if_pos e] at hc; omega
    rw [List.foldl_cons, put_none j h _ (by omega), DevS.put, List.getElem?_set_ne (by simpa using h1)]
theorem tear_none (j : Nat) : ∀ (h : List ((Nat × ByteArray) × Int)) (l : List ByteArray), (∀ p ∈ h, p.1.1 ≠ j) → (h.foldl DevS.tear l)[j]? = l[j]?
  | [], l, _ => rfl
  | p :: h, l, hc => by
    rw [List.foldl_cons, tear_none j h _ (fun q hq => hc q (by simp [hq])), DevS.tear, List.getElem?_set_ne (hc p (by simp))]
theorem back_at (sf : List ByteArray) (j : Nat) : ∀ (h : List (Nat × ByteArray)) (l : List ByteArray), l.length = sf.length → ((∃ p ∈ h, p.1 = j) ∨ l[j]? = sf[j]?) → (h.foldl (DevS.back sf) l)[j]? = sf[j]?
  | [], l, _, hd => by
    rcases hd with ⟨p, hp, _⟩ | q
    · simp at hp
    · exact q
  | p :: h, l, hl, hd => by
    refine back_at sf j h _ (by simpa [DevS.back] using hl) ?_
    have hset : p.1 = j → (DevS.back sf l p)[j]? = sf[j]? := by
      intro e
      subst e
      simp only [DevS.back]
      by_cases hlt : p.1 < sf.length
      · rw [List.getElem?_set_self (by omega)]
        simp [hlt]
      · rw [List.getElem?_eq_none (by simp; omega), List.getElem?_eq_none (by omega)]
    by_cases e : p.1 = j
    · exact .inr (hset e)
    · rcases hd with ⟨q, hq, he⟩ | q
      · rcases List.mem_cons.1 hq with r | r
        · subst r; exact absurd he e
        · exact .inl ⟨q, r, he⟩
      · right
        simp only [DevS.back]
        rw [List.getElem?_set_ne e]; exact q

/-- Behind a crash what is seen is what is safe. -/
theorem crash_now {d : DevS} {i : Nat} (h : Inv d i) (hwf : d.Wf) (keep : List Int) (j : Nat) : (d.crash keep).now[j]? = (d.crashed keep)[j]? := by
  simp only [DevS.crash]
  refine back_at (d.crashed keep) j d.held d.now ?_ ?_
  · simp [DevS.crashed, tearAll_length, hwf.same]
  · by_cases hc : ∃ p ∈ d.held, p.1 = j
    · exact .inl hc
    · right
      rw [← h.held, put_none j d.held d.safe (by rw [List.countP_eq_zero]; intro p hp e; exact hc ⟨p, hp, by simpa using e⟩), DevS.crashed, tear_none j]
      intro p hp e
      exact hc ⟨p.1, (List.of_mem_zip hp).1, e⟩

/-- A place that was not written stands. -/
theorem crash_same {d : DevS} {i : Nat} (h : Inv d i) (hwf : d.Wf) (keep : List Int) (j : Nat) (ht : times d j = 0) : (d.crash keep).now[j]? = d.safe[j]? := by
  rw [crash_now h hwf, DevS.crashed, tear_none j]
  intro p hp e
  have := List.countP_eq_zero.1 ht p.1 (List.of_mem_zip hp).1
  exact this (by simpa using e)

theorem put_at (j : Nat) : ∀ (h : List (Nat × ByteArray)) (l l' : List ByteArray), l.length = l'.length → l[j]? = l'[j]? → (h.foldl DevS.put l)[j]? = (h.foldl DevS.put l')[j]?
  | [], _, _, _, e => e
  | p :: h, l, l', hl, e => by
    refine put_at j h _ _ (by simpa [DevS.put] using hl) ?_
    simp only [DevS.put]
    by_cases hp : p.1 = j
    · subst hp
      by_cases hlt : p.1 < l.length
      · rw [List.getElem?_set_self hlt, List.getElem?_set_self (by omega)]
      · rw [List.getElem?_eq_none (by simp; omega), List.getElem?_eq_none (by simp; omega)]
    · rw [List.getElem?_set_ne hp, List.getElem?_set_ne hp]; exact e

/-- What one write of a place leaves there: some bytes of the new text, then the old one's. -/
theorem once (j : Nat) : ∀ (h : List (Nat × ByteArray)) (keep : List Int) (l : List ByteArray), h.countP (fun p => p.1 == j) = 1 → j < l.length → (∀ p ∈ h, p.2.size = 512) → (∀ s ∈ l, s.size = 512) →
    ∃ s n, (h.foldl DevS.put l)[j]? = some s ∧ n ≤ 512 ∧ ((h.zip keep).foldl DevS.tear l)[j]? = some (DevS.torn s (l.getD j ByteArray.empty) n)
  | [], keep, l, hc, _, _, _ => by simp at hc
  | p :: h, [], l, hc, hj, hs, hl => by
    rw [List.countP_cons] at hc
    obtain ⟨s, hs1, hs2⟩ : ∃ s, ((p :: h).foldl DevS.put l)[j]? = some s ∧ True := by
      have hlen : ((p :: h).foldl DevS.put l).length = l.length := putAll_length l (p :: h)
      exact ⟨_, List.getElem?_eq_getElem (by rw [hlen]; exact hj), trivial⟩
    refine ⟨s, 0, hs1, by omega, ?_⟩
    simp only [List.zip_nil_right, List.foldl_nil]
    rw [List.getElem?_eq_getElem hj]
    congr 1
    apply ByteArray.ext
    apply Array.ext'
    simp [DevS.torn, hj]
  | p :: h, c :: keep, l, hc, hj, hs, hl => by
    rw [List.countP_cons] at hc
    by_cases e : p.1 = j
    · have h0 : h.countP (fun p => p.1 == j) = 0 := by rw [if_pos (by simpa using e)] at hc; omega
      have hp := hs p (by simp)
      refine ⟨p.2, DevS.kept c, ?_, kept_le c, ?_⟩
      · rw [List.foldl_cons, put_none j h _ h0, DevS.put, e, List.getElem?_set_self hj]
      · rw [List.zip_cons_cons, List.foldl_cons, tear_none j]
        · simp only [DevS.tear, e]
          rw [List.getElem?_set_self hj]
        · intro q hq e2
          exact List.countP_eq_zero.1 h0 q.1 (List.of_mem_zip hq).1 (by simpa using e2)
    · have h1 : h.countP (fun p => p.1 == j) = 1 := by rw [if_neg (by simpa using e)] at hc; omega
      obtain ⟨s, n, a1, a2, a3⟩ := once j h keep (DevS.tear l (p, c)) h1 (by simpa [DevS.tear] using hj) (fun q hq => hs q (by simp [hq])) (by
        intro s hs'
        by_cases hlt : p.1 < l.length
        · rcases List.mem_or_eq_of_mem_set hs' with q | q
          · exact hl s q
          · rw [q]
            have ht : (l.getD p.1 ByteArray.empty).size = 512 := hl _ (by simp [hlt])
            rw [torn_size (by rw [ht]; exact hs p (by simp)) (by rw [hs p (by simp)]; exact kept_le _), ht]
        · rw [DevS.tear, List.set_eq_of_length_le (show l.length ≤ p.1 by omega)] at hs'
          exact hl s hs')
      have hg : (DevS.tear l (p, c)).getD j ByteArray.empty = l.getD j ByteArray.empty := by
        simp only [DevS.tear, List.getD_eq_getElem?_getD]
        rw [List.getElem?_set_ne e]
      have hg2 : (h.foldl DevS.put (DevS.tear l (p, c)))[j]? = (h.foldl DevS.put (DevS.put l p))[j]? := by
        refine put_at j h _ _ (by simp [DevS.tear, DevS.put]) ?_
        simp only [DevS.tear, DevS.put]
        rw [List.getElem?_set_ne e, List.getElem?_set_ne e]
      refine ⟨s, n, ?_, a2, ?_⟩
      · rw [List.foldl_cons, ← hg2]; exact a1
      · rw [List.zip_cons_cons, List.foldl_cons, a3, hg]

theorem Try.infoInt' : (Try.prog.info? 3).map (fun i => (i.zero, i.size, i.bytes)) = some (some (.int .i64 0), 1, 8) := by kernel_rfl

/-- Texts as cells of an array. -/
def textCells (l : List ByteArray) : Array Value := (l.map Value.string).toArray

/-- The first k of the texts l, and empty ones. -/
def filled (l : List ByteArray) (k : Nat) : List ByteArray := l.take k ++ List.replicate (16 - k) ByteArray.empty

theorem filled_length (l : List ByteArray) (hl : l.length = 16) (k : Nat) (hk : k ≤ 16) : (filled l k).length = 16 := by simp [filled, hl]; omega
theorem filled_set (l : List ByteArray) (hl : l.length = 16) (k : Nat) (hk : k < 16) : (textCells (filled l k)).setIfInBounds k (.string (l.getD k ByteArray.empty)) = textCells (filled l (k + 1)) := by
  obtain ⟨m, hm⟩ : ∃ m, 16 - k = m + 1 := ⟨16 - k - 1, by omega⟩
  have hlt : k < l.length := by omega
  unfold textCells filled
  rw [List.setIfInBounds_toArray, ← List.map_set, hm, show 16 - (k + 1) = m from by omega, List.replicate_succ, List.set_append]
  have h1 : (l.take k).length = k := by simp [hl]; omega
  rw [h1, if_neg (Nat.lt_irrefl k), Nat.sub_self, List.set_cons_zero, List.take_succ_eq_append_getElem hlt, List.append_assoc, List.singleton_append, List.getD_eq_getElem?_getD, List.getElem?_eq_getElem hlt]
  rfl
theorem filled_all (l : List ByteArray) (hl : l.length = 16) : filled l 16 = l := by simp [filled, List.take_of_length_le (show l.length ≤ 16 by omega)]
theorem filled_none (l : List ByteArray) : textCells (filled l 0) = #[.string ⟨#[]⟩, .string ⟨#[]⟩, .string ⟨#[]⟩, .string ⟨#[]⟩, .string ⟨#[]⟩, .string ⟨#[]⟩, .string ⟨#[]⟩, .string ⟨#[]⟩, .string ⟨#[]⟩, .string ⟨#[]⟩, .string ⟨#[]⟩, .string ⟨#[]⟩, .string ⟨#[]⟩, .string ⟨#[]⟩, .string ⟨#[]⟩, .string ⟨#[]⟩] := rfl

/-- Counts as cells of an array. -/
def countCells (d : DevS) : Array Value := ((List.range 16).map fun j => Value.int .i64 (times d j : Int)).toArray

theorem countCells_at (d : DevS) (j : Nat) (hj : j < 16) : (countCells d)[j]? = some (.int .i64 (times d j : Int)) := by simp [countCells, hj]
theorem countCells_write {d : DevS} {i : Nat} (h : Inv d i) (m : Nat) (hm : m < 16) (x : UInt8) : (countCells d).setIfInBounds m (.int .i64 ((times d m : Int) + 1)) = countCells (d.write m (blk x)).2 := by
  apply Array.ext_getElem?
  intro j
  by_cases hj : j < 16
  · rw [countCells_at _ j hj, times_write h m hm x j]
    by_cases e : m = j
    · subst e
      rw [Array.getElem?_setIfInBounds_self_of_lt (by simpa [countCells] using hm), if_pos rfl]
      rfl
    · rw [Array.getElem?_setIfInBounds_ne e, if_neg e, countCells_at _ j hj]
  · rw [Array.getElem?_eq_none (by simp [countCells]; omega), Array.getElem?_eq_none (by simp [countCells]; omega)]

theorem counts_none (d : DevS) (h : d.held = []) : countCells d = #[.int .i64 0, .int .i64 0, .int .i64 0, .int .i64 0, .int .i64 0, .int .i64 0, .int .i64 0, .int .i64 0, .int .i64 0, .int .i64 0, .int .i64 0, .int .i64 0, .int .i64 0, .int .i64 0, .int .i64 0, .int .i64 0] := by
  have : ∀ j, times d j = 0 := by intro j; simp [times, h]
  simp only [countCells, this]
  rfl

theorem crash_len {d : DevS} {i : Nat} (h : Inv d i) (keep : List Int) : (d.crash keep).now.length = 16 := by simp [DevS.crash, backAll_length, h.n16]
theorem crash_read {d : DevS} {i : Nat} (h : Inv d i) (keep : List Int) (j : Nat) (hj : j < 16) : (d.crash keep).read j = ((d.crash keep).now.getD j ByteArray.empty, 0) := by
  have hd : (d.crash keep).down = false := by simp [DevS.down, DevS.crash]
  simp only [DevS.read, hd, crash_len h keep]
  rw [if_pos (by omega), if_neg (by simp)]
  simp

theorem getD_eq {l l' : List ByteArray} {j : Nat} (h : l[j]? = l'[j]?) : l.getD j ByteArray.empty = l'.getD j ByteArray.empty := by rw [List.getD_eq_getElem?_getD, List.getD_eq_getElem?_getD, h]
theorem getD_size {l : List ByteArray} {j : Nat} (hj : j < l.length) (h : ∀ s ∈ l, s.size = 512) : (l.getD j ByteArray.empty).size = 512 := h _ (by simp [hj])

/-- What a crash leaves at a place that was written once. -/
theorem crash_once {d : DevS} {i : Nat} (h : Inv d i) (hwf : d.Wf) (keep : List Int) (j : Nat) (hj : j < 16) (ht : times d j = 1) :
    ∃ n, n ≤ 512 ∧ (d.crash keep).now.getD j ByteArray.empty = DevS.torn (d.now.getD j ByteArray.empty) (d.safe.getD j ByteArray.empty) n := by
  obtain ⟨s, n, a1, a2, a3⟩ := once j d.held keep d.safe ht (by rw [hwf.same, h.n16]; exact hj) (fun p hp => (hwf.held p hp).2) hwf.safe
  refine ⟨n, a2, ?_⟩
  rw [h.held] at a1
  rw [List.getD_eq_getElem?_getD, crash_now h hwf, DevS.crashed, a3, List.getD_eq_getElem?_getD (l := d.now), a1]
  rfl

/-- A torn text, from where it parts from the new one on, is the old one. -/
theorem torn_tail (N W : ByteArray) (n k : Nat) (hN : N.size = 512) (hW : W.size = 512) (hn : n ≤ 512) (hk : k ≤ 512)
    (hend : k = 512 ∨ (DevS.torn N W n).data[k]? ≠ N.data[k]?) : (DevS.torn N W n).extract k (DevS.torn N W n).size = W.extract k W.size := by
  have hs : (DevS.torn N W n).size = 512 := by rw [torn_size (by rw [hN, hW]) (by omega)]; exact hW
  have hnk : n ≤ k := by
    rcases Nat.lt_or_ge k n with h | h
    · exfalso
      rcases hend with e | e
      · omega
      · apply e
        have hlen : N.data.size = 512 := hN
        simp only [DevS.torn, List.getElem?_toArray]
        rw [List.getElem?_append_left (by simp [hlen]; omega), List.getElem?_take, if_pos h]
        simp
    · exact h
  apply ByteArray.ext
  apply Array.ext'
  rw [hs, hW]
  simp only [ByteArray.data_extract, Array.toList_extract, DevS.torn, List.extract_eq_take_drop]
  have hlen : N.data.size = 512 := hN
  have h1 : (N.data.toList.take n).length = n := by simp [hlen]; omega
  rw [List.drop_append, h1, List.drop_eq_nil_of_le (by rw [h1]; exact hnk), List.nil_append, List.drop_drop, show n + (k - n) = k from by omega]

set_option maxRecDepth 100000 in
set_option maxHeartbeats 4000000 in
theorem walk (p1 : Option Addr) (l1 : List StepD) (q1 : Nat) (p2 : Option Addr) (l2 : List StepD) (q2 : Nat) (p3 : Option Addr) (keep : List Int) (q3 : Nat) (w : World) (hl1 : ((l1.length : Nat) : Int) ≤ 9223372036854775807) (hst1 : StepsAt w p1 l1) (hl2 : ((l2.length : Nat) : Int) ≤ 9223372036854775807) (hst2 : StepsAt w p2 l2)
    (hl3 : ((keep.length : Nat) : Int) ≤ 9223372036854775807) (hst3 : (∀ y ∈ keep, inI64 y) ∧ IntsAt w p3 keep) :
    Calls Try.prog 3 #[.slice p1 l1.length q1, .slice p2 l2.length q2, .slice p3 keep.length q3] w fun e w' => e = .returned (.bool true) ∧ Only [] w w' := by
  have hnew := sep_new (Sep.nil w) 16 (by omega) (by omega)
  have HST1 := Lib.hid hst1; clear hst1
  have HST2 := Lib.hid hst2; clear hst2
  have HST3 := Lib.hid hst3.2; clear hst3
  by_cases hkl : 1000 < keep.length
  · go_enter Try.func3, Try.ntmps3
    go_wp2_with fail
    refine hnew.mono ?_
    rintro e w1 ⟨a, rfl, hs1⟩
    have HO := Lib.hid hs1.old; clear hs1 hnew
    go_wp2_with fail
    refine (wakes_any _).mono ?_
    rintro e w2 ⟨rfl, ho⟩
    have HO2 := Lib.hid (HO.out.trans ho (Within.nil _ _)); clear ho
    go_wp2_with fail
    go_ret
    exact ⟨rfl, HO2.out⟩
  · go_enter Try.func3, Try.ntmps3
    go_wp2_with fail
    refine hnew.mono ?_
    rintro e w1 ⟨b, rfl, hs1⟩
    have hI0 : Inv (DevS.new 16) 0 := ⟨rfl, rfl, rfl, rfl, Nat.le_refl _⟩
    have HS1 := Lib.hid hs1; clear hs1 hnew
    have HI0 := Lib.hid hI0; clear hI0
    go_upto_block 0 with fail
    go_cut [] (fun wx => ∃ d, Sep w wx [devRes b d] ∧ Inv d 60)
    case first =>
      go_wp2_with fail
      go_loopw [9] (fun s9 wr => ∃ (i : Nat) (d : DevS), i ≤ l1.length ∧ i ≤ 60 ∧ s9 = .int .i64 i ∧ Sep w wr [devRes b d] ∧ Inv d i) (fun s9 _ => l1.length - (intOf s9).toNat)
      case atStart => exact ⟨0, _, Nat.zero_le _, Nat.zero_le _, rfl, HS1.out, HI0.out⟩
      case round =>
        obtain ⟨i, d, hi1, hi2, rfl, hs, hinv⟩ := hrel
        have HS := Lib.hid hs; clear hs
        have HI := Lib.hid hinv; clear hinv HI0 HS1
        have hheld : d.held.length ≤ 1000000 := by have := HI.out.few; omega
        by_cases hlt : i < l1.length ∧ i < 60
        · obtain ⟨hlt1, hlt2⟩ := hlt
          obtain ⟨b', o, hp, hb, r1, r2, r3, r4, r5, c0, c1, c2, c3, c4, ci⟩ := HST1.out i l1[i] (List.getElem?_eq_getElem hlt1)
          subst hp
          generalize l1[i] = x at *
          clear c0 c2 c4 ci r4 r5 r3 r1
          obtain ⟨r2a, r2b⟩ := r2
          obtain ⟨m, hm⟩ : ∃ m : Nat, x.place % 16 = (m : Int) := ⟨(x.place % 16).toNat, by omega⟩
          have hm16 : m < 16 := by omega
          have HM := Lib.hid hm; clear hm
          have HE := Lib.hid (HI.out.write m hm16 x.fill)
          have hkeep : ∀ W', Only [] w W' → W'.cell? ⟨b', o + i * 5 + 1, none⟩ = some (.int .i64 x.place) ∧ W'.cell? ⟨b', o + i * 5 + 3, none⟩ = some (.int .u8 (x.fill.toNat : Int)) :=
            fun W' ho => ⟨by rw [ho.cell hb (by simp)]; exact c1, by rw [ho.cell hb (by simp)]; exact c3⟩
          have d1 := (hkeep wr HS.out.old).1
          have d3 := (hkeep wr HS.out.old).2
          have HKP := Lib.hid hkeep; clear hkeep
          clear c1 c3
          go_wp2_with fail
          go_upto_region 7 with fail
          go_cut [61] (fun s61 wx => s61 = .bool false ∧ Sep w wx [devRes b (d.write m (blk x.fill)).2])
          case first =>
            go_region_held3 (fun w' => w'.cell? ⟨b', o + i * 5 + 1, none⟩ = some (.int .i64 x.place) ∧ w'.cell? ⟨b', o + i * 5 + 3, none⟩ = some (.int .u8 (x.fill.toNat : Int))) (first | exact ⟨d1, d3⟩ | exact HKP.out _ (by assumption))
              (first
                | (go_at_call 11; refine (mod_any x.place 16 _ (by omega) (by omega) r2a r2b).mono ?_; rintro e w' ⟨rfl, rfl⟩; rw [HM.out])
                | (go_at_call 12; refine (block_any x.fill _).mono ?_; rintro e w' ⟨rfl, ho⟩; have ho2 : Only [] wr w' := (Only.drew [] wr).trans ho (Within.refl _ _); have ho' := (HS.out.only ho2).old; clear ho)
                | (go_at_call 10; refine (sep_write m (blk x.fill) (HS.out.only (by assumption)) hheld).mono ?_; rw [HE.out.1]; rintro e w' ⟨rfl, hs'⟩; have ho' := hs'.old))
            all_goals
              go_wp2_with fail
              go_meet
              exact ⟨rfl, by assumption⟩
          case rest =>
            obtain ⟨rfl, hs'⟩ := hcut
            have HS2 := Lib.hid hs'; clear hs' d1 d3
            go_wp2_with fail
            go_roundw
            case rel => exact ⟨i + 1, _, by omega, by omega, by go_num, HS2.out, HE.out.2.2.2⟩
            case measure => simp [intOf]; omega
        · have hguard : (i < l1.length ∧ ¬ i < 60) ∨ ¬ i < l1.length := by omega
          have HP : Hid (∃ d, Sep w wr [devRes b d] ∧ Inv d 60) := ⟨d, HS.out, HI.out.armed, HI.out.refused, HI.out.n16, HI.out.held, Nat.le_trans HI.out.few hi2⟩
          rcases hguard with ⟨g1, g2⟩ | g1
          all_goals
            go_wp2_with fail
            go_meet
            exact HP.out
    case rest =>
      obtain ⟨d, hs, hinv⟩ := hcut
      have HS := Lib.hid hs; clear hs
      have HI := Lib.hid hinv; clear hinv HI0 HS1
      have hheld : d.held.length ≤ 1000000 := by have := HI.out.few; omega
      have HF := Lib.hid HI.out.flush
      go_wp2_with fail
      refine (sep_flush HS.out hheld).mono ?_
      rw [HF.out.1]
      rintro e w2 ⟨rfl, hs2⟩
      obtain ⟨f, hf⟩ : ∃ f, f = d.flush.2 := ⟨_, rfl⟩
      rw [← hf] at hs2
      have hfi : Inv f 0 := by rw [hf]; exact HF.out.2.2.2
      have hfh : f.held = [] := by rw [hf]; exact HF.out.2.1
      have hfs : f.safe = f.now := by rw [hf]; exact HF.out.2.2.1
      have HS2 := Lib.hid hs2; clear hs2 hf
      have HFI := Lib.hid hfi; clear hfi
      have HFH := Lib.hid hfh; clear hfh
      have HFS := Lib.hid hfs; clear hfs
      clear HS HI HF hheld
      go_upto_block 2 with fail
      have hs3 := HS2.out.alloc #[.string ⟨#[]⟩, .string ⟨#[]⟩, .string ⟨#[]⟩, .string ⟨#[]⟩, .string ⟨#[]⟩, .string ⟨#[]⟩, .string ⟨#[]⟩, .string ⟨#[]⟩, .string ⟨#[]⟩, .string ⟨#[]⟩, .string ⟨#[]⟩, .string ⟨#[]⟩, .string ⟨#[]⟩, .string ⟨#[]⟩, .string ⟨#[]⟩, .string ⟨#[]⟩] 35
      generalize (w2.alloc (.cells #[.string ⟨#[]⟩, .string ⟨#[]⟩, .string ⟨#[]⟩, .string ⟨#[]⟩, .string ⟨#[]⟩, .string ⟨#[]⟩, .string ⟨#[]⟩, .string ⟨#[]⟩, .string ⟨#[]⟩, .string ⟨#[]⟩, .string ⟨#[]⟩, .string ⟨#[]⟩, .string ⟨#[]⟩, .string ⟨#[]⟩, .string ⟨#[]⟩, .string ⟨#[]⟩] 35)) = w3 at *
      rw [← filled_none f.now] at hs3
      obtain ⟨g, hg⟩ : ∃ g, g = w2.heap.size := ⟨_, rfl⟩
      rw [← hg] at hs3
      rw [← hg]
      clear hg
      have HS3 := Lib.hid hs3; clear hs3
      go_cut [] (fun wx => Sep w wx [blkRes g (.cells (textCells f.now) 35 (0, 0)), devRes b f])
      case first =>
        go_wp2_with fail
        go_loopw [11] (fun s11 wr => ∃ (j : Nat), j ≤ 16 ∧ s11 = .int .i64 j ∧ Sep w wr [blkRes g (.cells (textCells (filled f.now j)) 35 (0, 0)), devRes b f]) (fun s11 _ => 16 - (intOf s11).toNat)
        case atStart => exact ⟨0, Nat.zero_le _, rfl, HS3.out⟩
        case round =>
          obtain ⟨j, hj, rfl, hs⟩ := hrel
          have HS := Lib.hid hs; clear hs
          by_cases hlt : j < 16
          · have hrd := HFI.out.read j hlt
            have HRD := Lib.hid hrd; clear hrd
            obtain ⟨u, hu⟩ : ∃ u, wr.cell? ⟨g, j, none⟩ = some u := cell_in HS.out.blk (by simp [textCells, filled_length f.now HFI.out.n16 j hj]; exact hlt)
            have gf := free_of_block HS.out.blk j
            have HN := Lib.hid (filled_set f.now HFI.out.n16 j hlt)
            generalize f.now.getD j ByteArray.empty = t at *
            go_wp2_with fail
            refine (sep_read j HS.out.up1).mono ?_
            rintro e w4 ⟨rfl, rfl⟩
            rw [HRD.out]
            have HS4 : Hid (Sep w (wr.setCell ⟨g, j, none⟩ (.string t)) [blkRes g (.cells (textCells (filled f.now (j + 1))) 35 (0, 0)), devRes b f]) := by
              have := HS.out.store j (.string t)
              rw [HN.out] at this
              exact this
            go_wp2_with fail
            go_roundw
            case rel => exact ⟨j + 1, by omega, by go_num, HS4.out⟩
            case measure => simp [intOf]; omega
          · have HP : Hid (Sep w wr [blkRes g (.cells (textCells f.now) 35 (0, 0)), devRes b f]) := by
              obtain rfl : j = 16 := by omega
              have := HS.out
              rw [filled_all f.now HFI.out.n16] at this
              exact this
            go_wp2_with fail
            go_meet
            exact HP.out
      case rest =>
        have HS3' := Lib.hid hcut; clear hcut HS3 HS2
        go_upto_block 4 with fail
        have hs4 := HS3'.out.alloc #[.int .i64 0, .int .i64 0, .int .i64 0, .int .i64 0, .int .i64 0, .int .i64 0, .int .i64 0, .int .i64 0, .int .i64 0, .int .i64 0, .int .i64 0, .int .i64 0, .int .i64 0, .int .i64 0, .int .i64 0, .int .i64 0] 38
        generalize (wc.alloc (.cells #[.int .i64 0, .int .i64 0, .int .i64 0, .int .i64 0, .int .i64 0, .int .i64 0, .int .i64 0, .int .i64 0, .int .i64 0, .int .i64 0, .int .i64 0, .int .i64 0, .int .i64 0, .int .i64 0, .int .i64 0, .int .i64 0] 38)) = w4 at *
        rw [← counts_none f HFH.out] at hs4
        obtain ⟨t, ht⟩ : ∃ t, t = wc.heap.size := ⟨_, rfl⟩
        rw [← ht] at hs4
        rw [← ht]
        clear ht
        have HS4 := Lib.hid hs4; clear hs4
        go_cut [] (fun wx => ∃ d, Sep w wx [blkRes t (.cells (countCells d) 38 (0, 0)), blkRes g (.cells (textCells f.now) 35 (0, 0)), devRes b d] ∧ Inv d 60 ∧ d.safe = f.now)
        case first =>
          go_wp2_with fail
          go_loopw [13] (fun s13 wr => ∃ (i : Nat) (d : DevS), i ≤ l2.length ∧ i ≤ 60 ∧ s13 = .int .i64 i ∧ Sep w wr [blkRes t (.cells (countCells d) 38 (0, 0)), blkRes g (.cells (textCells f.now) 35 (0, 0)), devRes b d] ∧ Inv d i ∧ d.safe = f.now) (fun s13 _ => l2.length - (intOf s13).toNat)
          case atStart => exact ⟨0, f, Nat.zero_le _, Nat.zero_le _, rfl, HS4.out, HFI.out, HFS.out⟩
          case round =>
            obtain ⟨i, d, hi1, hi2, rfl, hs, hinv, hsafe⟩ := hrel
            have HS := Lib.hid hs; clear hs
            have HI := Lib.hid hinv; clear hinv
            have HSF := Lib.hid hsafe; clear hsafe
            have hheld : d.held.length ≤ 1000000 := by have := HI.out.few; omega
            by_cases hlt : i < l2.length ∧ i < 60
            · obtain ⟨hlt1, hlt2⟩ := hlt
              obtain ⟨b', o, hp, hb, r1, r2, r3, r4, r5, c0, c1, c2, c3, c4, ci⟩ := HST2.out i l2[i] (List.getElem?_eq_getElem hlt1)
              subst hp
              generalize l2[i] = x at *
              clear c0 c2 c4 ci r4 r5 r3 r1
              obtain ⟨r2a, r2b⟩ := r2
              obtain ⟨m, hm⟩ : ∃ m : Nat, x.place % 16 = (m : Int) := ⟨(x.place % 16).toNat, by omega⟩
              have hm16 : m < 16 := by omega
              have HM := Lib.hid hm; clear hm
              have HE := Lib.hid (HI.out.write m hm16 x.fill)
              have hkeep : ∀ W', Only [] w W' → W'.cell? ⟨b', o + i * 5 + 1, none⟩ = some (.int .i64 x.place) ∧ W'.cell? ⟨b', o + i * 5 + 3, none⟩ = some (.int .u8 (x.fill.toNat : Int)) :=
                fun W' ho => ⟨by rw [ho.cell hb (by simp)]; exact c1, by rw [ho.cell hb (by simp)]; exact c3⟩
              have d1 := (hkeep wr HS.out.old).1
              have HKP := Lib.hid hkeep; clear hkeep
              clear c1 c3
              have ct : wr.cell? ⟨t, m, none⟩ = some (.int .i64 (times d m : Int)) := cell_of_block HS.out.blk m (countCells_at d m hm16)
              have ft := free_of_block HS.out.blk m
              have htm : times d m ≤ 60 := Nat.le_trans (by unfold times; exact List.countP_le_length) (Nat.le_trans HI.out.few hi2)
              have HS5 : Hid (Sep w (wr.setCell ⟨t, m, none⟩ (.int .i64 ((times d m : Int) + 1))) [blkRes t (.cells (countCells (d.write m (blk x.fill)).2) 38 (0, 0)), blkRes g (.cells (textCells f.now) 35 (0, 0)), devRes b d]) := by
                have := HS.out.store m (.int .i64 ((times d m : Int) + 1))
                rw [countCells_write HI.out m hm16 x.fill] at this
                exact this
              have d3 := (HKP.out _ HS5.out.old).2
              go_wp2_with fail
              refine (mod_any x.place 16 _ (by omega) (by omega) r2a r2b).mono ?_
              rintro e w5 ⟨rfl, rfl⟩
              rw [HM.out]
              go_wp2_with fail
              refine (block_any x.fill _).mono ?_
              rintro e w6 ⟨rfl, ho6⟩
              have HS6 := Lib.hid (HS5.out.only ho6).up2; clear ho6
              clear d1 d3 ct ft
              go_wp2_with fail
              refine (sep_write m (blk x.fill) HS6.out hheld).mono ?_
              rw [HE.out.1]
              rintro e w7 ⟨rfl, hs7⟩
              have HS7 := Lib.hid hs7.dn2; clear hs7
              go_wp2_with fail
              go_roundw
              case rel => exact ⟨i + 1, _, by omega, by omega, by go_num, HS7.out, HE.out.2.2.2, by rw [HE.out.2.2.1]; exact HSF.out⟩
              case measure => simp [intOf]; omega
            · have hguard : (i < l2.length ∧ ¬ i < 60) ∨ ¬ i < l2.length := by omega
              have HP : Hid (∃ d, Sep w wr [blkRes t (.cells (countCells d) 38 (0, 0)), blkRes g (.cells (textCells f.now) 35 (0, 0)), devRes b d] ∧ Inv d 60 ∧ d.safe = f.now) := ⟨d, HS.out, ⟨HI.out.armed, HI.out.refused, HI.out.n16, HI.out.held, Nat.le_trans HI.out.few hi2⟩, HSF.out⟩
              rcases hguard with ⟨g1, g2⟩ | g1
              all_goals
                go_wp2_with fail
                go_meet
                exact HP.out
        case rest =>
          obtain ⟨d, hs, hinv, hsafe⟩ := hcut
          have HS := Lib.hid hs; clear hs HS4
          have HI := Lib.hid hinv; clear hinv
          have HSF := Lib.hid hsafe; clear hsafe
          have hheld : d.held.length ≤ 1000000 := by have := HI.out.few; omega
          go_upto_block 6 with fail
          have hs5 := HS.out.alloc #[.string ⟨#[]⟩, .string ⟨#[]⟩, .string ⟨#[]⟩, .string ⟨#[]⟩, .string ⟨#[]⟩, .string ⟨#[]⟩, .string ⟨#[]⟩, .string ⟨#[]⟩, .string ⟨#[]⟩, .string ⟨#[]⟩, .string ⟨#[]⟩, .string ⟨#[]⟩, .string ⟨#[]⟩, .string ⟨#[]⟩, .string ⟨#[]⟩, .string ⟨#[]⟩] 35
          generalize (wc.alloc (.cells #[.string ⟨#[]⟩, .string ⟨#[]⟩, .string ⟨#[]⟩, .string ⟨#[]⟩, .string ⟨#[]⟩, .string ⟨#[]⟩, .string ⟨#[]⟩, .string ⟨#[]⟩, .string ⟨#[]⟩, .string ⟨#[]⟩, .string ⟨#[]⟩, .string ⟨#[]⟩, .string ⟨#[]⟩, .string ⟨#[]⟩, .string ⟨#[]⟩, .string ⟨#[]⟩] 35)) = w5 at *
          rw [← filled_none d.now] at hs5
          obtain ⟨n, hn⟩ : ∃ n, n = wc.heap.size := ⟨_, rfl⟩
          rw [← hn] at hs5
          rw [← hn]
          clear hn
          have HS5 := Lib.hid hs5; clear hs5 HS
          go_cut [] (fun wx => Sep w wx [blkRes n (.cells (textCells d.now) 35 (0, 0)), blkRes t (.cells (countCells d) 38 (0, 0)), blkRes g (.cells (textCells f.now) 35 (0, 0)), devRes b d])
          case first =>
            go_wp2_with fail
            go_loopw [16] (fun s16 wr => ∃ (j : Nat), j ≤ 16 ∧ s16 = .int .i64 j ∧ Sep w wr [blkRes n (.cells (textCells (filled d.now j)) 35 (0, 0)), blkRes t (.cells (countCells d) 38 (0, 0)), blkRes g (.cells (textCells f.now) 35 (0, 0)), devRes b d]) (fun s16 _ => 16 - (intOf s16).toNat)
            case atStart => exact ⟨0, Nat.zero_le _, rfl, HS5.out⟩
            case round =>
              obtain ⟨j, hj, rfl, hs⟩ := hrel
              have HS := Lib.hid hs; clear hs
              by_cases hlt : j < 16
              · have hrd := HI.out.read j hlt
                have HRD := Lib.hid hrd; clear hrd
                obtain ⟨u, hu⟩ : ∃ u, wr.cell? ⟨n, j, none⟩ = some u := cell_in HS.out.blk (by simp [textCells, filled_length d.now HI.out.n16 j hj]; exact hlt)
                have gf := free_of_block HS.out.blk j
                have HN := Lib.hid (filled_set d.now HI.out.n16 j hlt)
                generalize d.now.getD j ByteArray.empty = x at *
                go_wp2_with fail
                refine (sep_read j HS.out.up3).mono ?_
                rintro e w6 ⟨rfl, rfl⟩
                rw [HRD.out]
                have HS6 : Hid (Sep w (wr.setCell ⟨n, j, none⟩ (.string x)) [blkRes n (.cells (textCells (filled d.now (j + 1))) 35 (0, 0)), blkRes t (.cells (countCells d) 38 (0, 0)), blkRes g (.cells (textCells f.now) 35 (0, 0)), devRes b d]) := by
                  have := HS.out.store j (.string x)
                  rw [HN.out] at this
                  exact this
                go_wp2_with fail
                go_roundw
                case rel => exact ⟨j + 1, by omega, by go_num, HS6.out⟩
                case measure => simp [intOf]; omega
              · have HP : Hid (Sep w wr [blkRes n (.cells (textCells d.now) 35 (0, 0)), blkRes t (.cells (countCells d) 38 (0, 0)), blkRes g (.cells (textCells f.now) 35 (0, 0)), devRes b d]) := by
                  obtain rfl : j = 16 := by omega
                  have := HS.out
                  rw [filled_all d.now HI.out.n16] at this
                  exact this
                go_wp2_with fail
                go_meet
                exact HP.out
          case rest =>
            have HS := Lib.hid hcut; clear hcut HS5
            have hrow := HS.out.row_made 3 1
            have HROW := Lib.hid hrow; clear hrow
            obtain ⟨ii, II⟩ := info_of Try.infoInt'
            have hsrc : ∀ j u, (keep.map (Value.int .i64))[j]? = some u → ∃ b o, p3 = some ⟨b, o, none⟩ ∧ (wc.alloc (.cells #[] 3)).cell? ⟨b, o + j, none⟩ = some u := by
              intro j u hu
              simp only [List.getElem?_map, Option.map_eq_some_iff] at hu
              obtain ⟨x, hx, rfl⟩ := hu
              obtain ⟨b2, o2, e, hb2, hc2⟩ := (HST3.out.only (HS.out.forget (.cells #[] 3)).old) j x hx
              exact ⟨b2, o2, e, hc2⟩
            have HSRC := Lib.hid hsrc; clear hsrc
            go_wp2_with (at_builtin; go_must (refine wpList_append_src (w := w) (e := 3) (l := [blkRes n (.cells (textCells d.now) 35 (0, 0)), blkRes t (.cells (countCells d) 38 (0, 0)), blkRes g (.cells (textCells f.now) 35 (0, 0)), devRes b d]) rfl (.tmp 121) (.tmp 122) 23 rfl ii _ 1 8 Try.underlying23 II.out rfl (by decide) _ 0 [] rfl p3 keep.length q3 (keep.map (Value.int .i64)) rfl (by simp) HSRC.out ?one HROW.out (by unfold maxLen; omega) (by omega) ?_))
            case one => intro u hu; simp only [List.mem_map] at hu; obtain ⟨x, _, rfl⟩ := hu; rfl
            intro p' q' w6 hs6
            have HS6 := Lib.hid (hs6.perm (List.perm_append_comm (l₁ := [_, _, _, _]) (l₂ := [_]))); clear hs6
            go_wp2_with fail
            refine (sep_crash_row HS6.out hheld (by omega)).mono ?_
            rintro e w7 ⟨rfl, hs7⟩
            have HS7 : Hid (Sep w w7 [blkRes n (.cells (textCells d.now) 35 (0, 0)), blkRes t (.cells (countCells d) 38 (0, 0)), blkRes g (.cells (textCells f.now) 35 (0, 0)), devRes b (d.crash keep)]) := (hs7.up1.tail).perm (List.perm_append_comm (l₁ := [_]) (l₂ := [_, _, _]))
            clear hs7 HROW HS HSRC
            have hwf := sep_wf HS6.out
            have HWF := Lib.hid hwf; clear hwf
            go_wp2_with fail
            go_loopw [17] (fun s17 wr => ∃ (j : Nat), j ≤ 16 ∧ s17 = .int .i64 j ∧ Sep w wr [blkRes n (.cells (textCells d.now) 35 (0, 0)), blkRes t (.cells (countCells d) 38 (0, 0)), blkRes g (.cells (textCells f.now) 35 (0, 0)), devRes b (d.crash keep)]) (fun s17 _ => 16 - (intOf s17).toNat)
            case atStart => exact ⟨0, Nat.zero_le _, rfl, HS7.out⟩
            case round =>
              obtain ⟨j, hj, rfl, hs⟩ := hrel
              have HS := Lib.hid hs; clear hs HS7 HS6
              by_cases hlt : j < 16
              · have hrd := crash_read HI.out keep j hlt
                have HRD := Lib.hid hrd; clear hrd
                have hcn : ∀ W, Sep w W [blkRes n (.cells (textCells d.now) 35 (0, 0)), blkRes t (.cells (countCells d) 38 (0, 0)), blkRes g (.cells (textCells f.now) 35 (0, 0)), devRes b (d.crash keep)] → W.cell? ⟨n, j, none⟩ = some (.string (d.now.getD j ByteArray.empty)) ∧ W.cell? ⟨g, j, none⟩ = some (.string (d.safe.getD j ByteArray.empty)) := by
                  intro W hW
                  refine ⟨cell_of_block hW.blk j (by simp [textCells, HI.out.n16, hlt]), ?_⟩
                  rw [HSF.out]
                  exact cell_of_block hW.up2.blk j (by simp [textCells, HFI.out.n16, hlt])
                have ct : wr.cell? ⟨t, j, none⟩ = some (.int .i64 (times d j : Int)) := cell_of_block HS.out.up1.blk j (countCells_at d j hlt)
                obtain ⟨cn, cg⟩ := hcn _ HS.out
                have HCN := Lib.hid hcn; clear hcn
                have z1 : (d.now.getD j ByteArray.empty).size = 512 := getD_size (by rw [HI.out.n16]; exact hlt) HWF.out.now
                have z2 : (d.safe.getD j ByteArray.empty).size = 512 := getD_size (by rw [HWF.out.same, HI.out.n16]; exact hlt) HWF.out.safe
                have z3 : ((d.crash keep).now.getD j ByteArray.empty).size = 512 := getD_size (by rw [crash_len HI.out]; exact hlt) (crash_wf HWF.out keep).now
                have hsame : times d j = 0 → (d.crash keep).now.getD j ByteArray.empty = d.safe.getD j ByteArray.empty := fun h0 => getD_eq (crash_same HI.out HWF.out keep j h0)
                have hone : times d j = 1 → ∃ n, n ≤ 512 ∧ (d.crash keep).now.getD j ByteArray.empty = DevS.torn (d.now.getD j ByteArray.empty) (d.safe.getD j ByteArray.empty) n := fun h1 => crash_once HI.out HWF.out keep j hlt h1
                generalize (d.crash keep).now.getD j ByteArray.empty = S at *
                generalize d.now.getD j ByteArray.empty = N at *
                generalize d.safe.getD j ByteArray.empty = T at *
                generalize times d j = c at *
                have y1 : ((N.size : Int) != 512) = false := by rw [z1]; rfl
                have y2 : ((T.size : Int) != 512) = false := by rw [z2]; rfl
                have y3 : ((S.size : Int) != 512) = false := by rw [z3]; rfl
                have x1 : 512 ≤ N.size := by omega
                have x2 : 512 ≤ T.size := by omega
                have x3 : 512 ≤ S.size := by omega
                have u1 : N.size ≤ 512 := by omega
                have u2 : T.size ≤ 512 := by omega
                have u3 : S.size ≤ 512 := by omega
                have Z1 := Lib.hid z1; clear z1
                have Z2 := Lib.hid z2; clear z2
                have Z3 := Lib.hid z3; clear z3
                by_cases hc0 : c = 0
                · obtain rfl := hsame hc0
                  subst hc0
                  clear hone hsame
                  go_wp2_with fail
                  refine (sep_read j HS.out.up3).mono ?_
                  rintro e w8 ⟨rfl, rfl⟩
                  rw [HRD.out]
                  go_wp2_with fail
                  go_roundw
                  case rel => exact ⟨j + 1, by omega, by go_num, HS.out⟩
                  case measure => simp [intOf]; omega
                · have q0 : ((c : Int) == 0) = false := by rw [beq_eq_false_iff_ne]; omega
                  by_cases hc1 : c = 1
                  · obtain ⟨tn, htn, hS⟩ := hone hc1
                    have HTN := Lib.hid hS
                    subst hc1
                    clear hone hsame hS q0 hc0
                    go_wp2_with fail
                    refine (sep_read j HS.out.up3).mono ?_
                    rintro e w8 ⟨rfl, rfl⟩
                    rw [HRD.out]
                    go_wp2_with fail
                    clear cn cg ct
                    obtain ⟨wo, hwo⟩ : ∃ wo : World, wo = wr := ⟨_, rfl⟩
                    rw [← hwo]
                    rw [← hwo] at HS
                    clear hwo
                    go_loopw [20] (fun s20 wq => ∃ k : Nat, k ≤ 512 ∧ s20 = .int .i64 k ∧ Sep w wq [blkRes n (.cells (textCells d.now) 35 (0, 0)), blkRes t (.cells (countCells d) 38 (0, 0)), blkRes g (.cells (textCells f.now) 35 (0, 0)), devRes b (d.crash keep)]) (fun s20 _ => 512 - (intOf s20).toNat)
                    case atStart => exact ⟨0, Nat.zero_le _, rfl, HS.out⟩
                    case round =>
                      obtain ⟨k, hk, rfl, hs⟩ := hrel
                      have HQ := Lib.hid hs; clear hs
                      obtain ⟨cn, cg⟩ := HCN.out _ HQ.out
                      by_cases hk5 : k < 512
                      · have l1 : (k : Int) < S.size := by omega
                        have l2 : (k : Int) < N.size := by omega
                        have l3 : (k : Int) < 512 := by omega
                        have l4 : decide ((k : Int) < 512) = true := by rw [decide_eq_true_iff]; exact l3
                        by_cases hbyte : (((S[k]'(by omega)).toNat : Int) == ((N[k]'(by omega)).toNat : Int)) = true
                        · go_wp2_with fail
                          go_quiet (fail)
                          go_wp2_with fail
                          go_roundw
                          case rel => exact ⟨k + 1, by omega, by go_num, HQ.out.only (Only.drewN [] _ _)⟩
                          case measure => simp [intOf]; omega
                        · have hbyte' : (((S[k]'(by omega)).toNat : Int) == ((N[k]'(by omega)).toNat : Int)) = false := by simpa using hbyte
                          have htail : ((S.extract k S.size).toList == (T.extract k T.size).toList) = true := by
                            have := torn_tail N T tn k Z1.out Z2.out htn hk (.inr (by
                              rw [← HTN.out]
                              intro e
                              apply hbyte
                              rw [Array.getElem?_eq_getElem (by show k < S.size; omega), Array.getElem?_eq_getElem (by show k < N.size; omega), Option.some.injEq] at e
                              have e2 : S[k]'(by omega) = N[k]'(by omega) := e
                              rw [e2]
                              exact beq_self_eq_true _))
                            rw [← HTN.out] at this
                            rw [this]
                            exact beq_self_eq_true _
                          have HTL := Lib.hid htail; clear htail hbyte
                          go_wp2_with fail
                          go_quiet (fail)
                          go_wp2_with fail
                          have htail := HTL.out
                          go_quiet (fail)
                          go_wp2_with fail
                          go_roundw
                          case rel => exact ⟨j + 1, by omega, by go_num, HQ.out.only (Only.drewN [] _ _)⟩
                          case measure => simp [intOf]; omega
                      · have l4 : decide ((k : Int) < 512) = false := by rw [decide_eq_false_iff_not]; omega
                        have l5 : ¬ (k : Int) < 512 := by omega
                        have htail : ((S.extract k S.size).toList == (T.extract k T.size).toList) = true := by
                          have := torn_tail N T tn k Z1.out Z2.out htn hk (.inl (by omega))
                          rw [← HTN.out] at this
                          rw [this]
                          exact beq_self_eq_true _
                        have HTL := Lib.hid htail; clear htail
                        go_wp2_with fail
                        go_quiet (fail)
                        go_wp2_with fail
                        have htail := HTL.out
                        go_quiet (fail)
                        go_wp2_with fail
                        go_roundw
                        case rel => exact ⟨j + 1, by omega, by go_num, HQ.out.only (Only.drewN [] _ _)⟩
                        case measure => simp [intOf]; omega
                  · have q2 : ((c : Int) == 1) = false := by rw [beq_eq_false_iff_ne]; omega
                    clear hone hsame hc0 hc1
                    go_wp2_with fail
                    refine (sep_read j HS.out.up3).mono ?_
                    rintro e w8 ⟨rfl, rfl⟩
                    rw [HRD.out]
                    go_wp2_with fail
                    go_roundw
                    case rel => exact ⟨j + 1, by omega, by go_num, HS.out⟩
                    case measure => simp [intOf]; omega
              · have hh : (d.crash keep).held.length = 0 := rfl
                have hdn : (d.crash keep).down = false := by simp [DevS.down, DevS.crash]
                have HH := Lib.hid hh; clear hh
                have HDN := Lib.hid hdn; clear hdn
                go_wp2_with fail
                refine (sep_held HS.out.up3).mono ?_
                rintro e w8 ⟨rfl, rfl⟩
                rw [HH.out]
                go_wp2_with fail
                refine (sep_down HS.out.up3).mono ?_
                rintro e w8 ⟨rfl, rfl⟩
                rw [HDN.out]
                go_wp2_with fail
                refine (wakes_any _).mono ?_
                rintro e w9 ⟨rfl, ho9⟩
                have HO9 := Lib.hid (HS.out.old.trans ho9 (Within.nil _ _)); clear ho9
                go_wp2_with fail
                go_ret
                exact ⟨rfl, HO9.out⟩

theorem own : ownKnob Try.prog.godebug = none := by kernel_rfl
theorem laidOut : laidOutB Try.prog = true := by kernel_rfl

set_option maxRecDepth 100000 in
theorem lifted (os : Os) (started : os.Started) (H : Type) (enc : TypeId × Value → H) :
    ReturnsInHanded {} Try.checked os 3 .any (Rows.devSafeSpec.pre6 enc Try.prog Try.f3 Rows.devSafeRow.domain false) (Rows.devSafeSpec.post enc Try.prog Try.f3 false true false false) := by
  refine returnsInHanded_of_change (C := Try.checked) own started (by kernel_rfl) Try.func3
    (ChangeSpec.witness6 (enc := enc) (C := Try.checked) false ⟨#[], #[.slice none 0 0, .slice none 0 0, .slice none 0 0], []⟩ 8 (by kernel_rfl) (by kernel_rfl) (by kernel_rfl) (by kernel_rfl)) ?_
  intro W base args ds gs before hval0 hW hcnd _
  have hval : ∀ (j : Nat) t v, Try.f3.params[j]? = some t → args[j]? = some v → Value.okWide Try.prog W .any base t v := hval0
  have hW' := hW
  obtain ⟨pp, pq, hA0, hV, rfl, hfz, hnd⟩ := hW
  have hA : DataW.TrodAll enc Try.prog W 0 (fun _ => true) true Try.f3.params.toList args.toList ds pp := hA0
  rw [Try.params3] at hA hval
  obtain ⟨v0, vs0, d0, ds0, p0, q0, hargs, rfl, rfl, h0, r0⟩ := trodAll_cons hA
  obtain ⟨v1, vs1, d1, ds1, p1, q1, rfl, rfl, rfl, h1, r1⟩ := trodAll_cons r0
  obtain ⟨v2, vs2, d2, ds2, p2, q2, rfl, rfl, rfl, h2, r2⟩ := trodAll_cons r1
  obtain ⟨rfl, rfl, rfl⟩ := trodAll_nil r2
  obtain rfl : args = #[v0, v1, v2] := by cases args; simp_all
  obtain ⟨rfl, rfl⟩ := trodVars_none hV
  obtain ⟨sp0, sl0, sq0, rfl, hl0, hst0⟩ := open_steps (W := W) (v := v0) (by
    obtain ⟨a, len, cap, rfl⟩ := okWide_slice Try.underlying22 (hval 0 22 v0 rfl rfl)
    exact ⟨a, len, cap, rfl⟩) h0
  obtain ⟨sp1, sl1, sq1, rfl, hl1, hst1⟩ := open_steps (W := W) (v := v1) (by
    obtain ⟨a, len, cap, rfl⟩ := okWide_slice Try.underlying22 (hval 1 22 v1 rfl rfl)
    exact ⟨a, len, cap, rfl⟩) h1
  obtain ⟨sp2, sl2, sq2, rfl, hl2, hst2⟩ := open_ints' (W := W) (v := v2) (by
    obtain ⟨a, len, cap, rfl⟩ := okWide_slice Try.underlying23 (hval 2 23 v2 rfl rfl)
    exact ⟨a, len, cap, rfl⟩) h2
  clear hA0 hval0
  simp only [List.append_nil] at hW'
  refine (walk sp0 sl0 sq0 sp1 sl1 sq1 sp2 sl2 sq2 W hl0 hst0 hl1 hst1 hl2 hst2).mono fun e W' ⟨he, hg⟩ => ?_
  subst he
  have hb : Below W.heap.size W W' := hg.below (Nat.le_refl _) (by simp)
  have hargs := (trodAll_cons_mk (Below.trod laidOut (by kernel_rfl) (of_decide_eq_true (by kernel_rfl)) h0 hb (fun x hx => hW'.lt x (by simp [hx]))) (trodAll_cons_mk (Below.trod laidOut (by kernel_rfl) (of_decide_eq_true (by kernel_rfl)) h1 hb (fun x hx => hW'.lt x (by simp [hx]))) (trodAll_cons_mk (Below.trod laidOut (by kernel_rfl) (of_decide_eq_true (by kernel_rfl)) h2 hb (fun x hx => hW'.lt x (by simp [hx]))) trodAll_mk0)))
  simp only [List.append_nil] at hargs
  exact ⟨_, rfl, _, _, _, [], _, [], hW', trodAll_cons_mk (shut_bool Try.underlying4 _) trodAll_mk0, hargs, rfl, hb.frame _, fun h => by cases h⟩

theorem over : Rows.devSafeRow.holds Try.pinned (OpenSpec.ofChange Rows.devSafeSpec) :=
  OpenClaim.holds_of_wide 3 Try.f3 rfl rfl rfl rfl rfl rfl rfl ⟨rfl, rfl, rfl, rfl, rfl⟩ rfl rfl rfl rfl rfl (by kernel_rfl) Try.func3 (by kernel_rfl)
    (of_decide_eq_true (by kernel_rfl)) (by unfold Func.isWrapper; first | (rw [if_pos (by decide +kernel)]; kernel_rfl) | (rw [if_neg (by decide +kernel)]; exact ⟨rfl, rfl⟩))
    (fun os started H enc _ => lifted os started H enc)

theorem proved : Rows.DevSafeSaid := over
#print axioms proved
end Go.Proofs.Ytaipjialomjhhaa.devSafe
