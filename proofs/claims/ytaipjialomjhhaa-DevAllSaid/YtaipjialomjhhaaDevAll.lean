/-
  What is proved here: the statement DevAll: a crash that keeps all writes leaves what was seen; one that keeps none what was flushed last; for every input.
  No condition.
-/
import Derived.Test.YtaipjialomjhhaaSteps
import Derived.Test.YtaipjialomjhhaaSepRow
import Derived.Deep.DeepMust
import Derived.Deep.RegionHeld3
import Derived.Deep.DeepCutAuto
namespace Go.Proofs.Ytaipjialomjhhaa.devAll
open Go.ChangeShapes Go.WideShapes Go.ChangeAt Go.RowKit Go.Proofs.Ytaipjialomjhhaa
set_option linter.unusedVariables false

/-- Both devices' state after the steps so far: bytes that are seen, bytes that are safe. -/
structure Inv (d : DevS) (nows safes : List UInt8) (i : Nat) : Prop where
  armed : d.armed = false
  refused : d.refused = 0
  n8 : nows.length = 8
  s8 : safes.length = 8
  now : d.now = nows.map blk
  safe : d.safe = safes.map blk
  held : d.held.foldl DevS.put d.safe = d.now
  few : d.held.length ≤ i
  at8 : ∀ p ∈ d.held, p.1 < 8

theorem Inv.down {d : DevS} {nows safes : List UInt8} {i : Nat} (h : Inv d nows safes i) : d.down = false := by simp [DevS.down, h.armed]
theorem Inv.len {d : DevS} {nows safes : List UInt8} {i : Nat} (h : Inv d nows safes i) : d.now.length = 8 := by rw [h.now]; simp [h.n8]

theorem Inv.flush {d : DevS} {nows safes : List UInt8} {i : Nat} (h : Inv d nows safes i) : d.flush.1 = 0 ∧ d.flush.2.held = [] ∧ Inv d.flush.2 nows nows (i + 1) := by
  have e : d.flush = (0, DevS.did { d with safe := d.held.foldl DevS.put d.safe, held := [] }) := by
    simp only [DevS.flush]
    rw [if_neg (by rw [h.down]; simp)]
  rw [e]
  refine ⟨rfl, rfl, h.armed, h.refused, h.n8, h.n8, h.now, ?_, h.held, Nat.zero_le _, by simp [DevS.did]⟩
  show d.held.foldl DevS.put d.safe = _
  rw [h.held, h.now]

theorem Inv.write {d : DevS} {nows safes : List UInt8} {i : Nat} (h : Inv d nows safes i) (m : Nat) (hm : m < 8) (x : UInt8) :
    (d.write m (blk x)).1 = 0 ∧ (d.write m (blk x)).2.held.length = d.held.length + 1 ∧ Inv (d.write m (blk x)).2 (nows.set m x) safes (i + 1) := by
  have hn : (0 ≤ (m : Int) ∧ (m : Int) < (d.now.length : Int)) := by rw [h.len]; omega
  have e : d.write m (blk x) = (0, DevS.store { d with refused := if 0 < d.refused then d.refused - 1 else d.refused } m (blk x)) := by
    simp only [DevS.write]
    rw [if_pos hn, if_pos (blk_size x), if_neg (by rw [h.down]; simp), if_neg (by rw [h.refused]; simp)]
  rw [e]
  refine ⟨rfl, by simp [DevS.store, DevS.did], h.armed, ?_, by simp [h.n8], h.s8, ?_, h.safe, ?_, ?_, ?_⟩
  · simp [DevS.store, DevS.did, h.refused]
  · simp [DevS.store, DevS.did, h.now, List.map_set]
  · simp only [DevS.store, DevS.did, List.foldl_append, List.foldl_cons, List.foldl_nil, h.held, DevS.put, Int.toNat_natCast]
  · simpa [DevS.store, DevS.did] using h.few
  · intro p hp
    simp only [DevS.store, DevS.did, Int.toNat_natCast] at hp
    rcases List.mem_append.1 hp with q | q
    · exact h.at8 p q
    · simp at q; subst q; exact hm

/-- A list that differs from another one at some places only, with these put back. -/
theorem back_all (sf : List ByteArray) : ∀ (h : List (Nat × ByteArray)) (l : List ByteArray), l.length = sf.length → (∀ i, (∃ p ∈ h, p.1 = i) ∨ l[i]? = sf[i]?) → h.foldl (DevS.back sf) l = sf
  | [], l, _, hd => by
    apply List.ext_getElem?
    intro i
    rcases hd i with ⟨p, hp, _⟩ | q
    · simp at hp
    · exact q
  | p :: h, l, hl, hd => by
    refine back_all sf h _ (by simpa [DevS.back] using hl) ?_
    intro i
    rcases hd i with ⟨q, hq, he⟩ | q
    · rcases List.mem_cons.1 hq with e | e
      · right
        subst e
        subst he
        simp only [DevS.back]
        by_cases hlt : q.1 < sf.length
        · rw [List.getElem?_set_self (by omega)]
          simp [hlt]
        · rw [List.getElem?_eq_none (by simp; omega), List.getElem?_eq_none (by omega)]
      · exact .inl ⟨q, e, he⟩
    · right
      simp only [DevS.back]
      by_cases e : p.1 = i
      · subst e
        by_cases hlt : p.1 < sf.length
        · rw [List.getElem?_set_self (by omega)]
          simp [hlt]
        · rw [List.getElem?_eq_none (by simp; omega), List.getElem?_eq_none (by omega)]
      · rw [List.getElem?_set_ne e]; exact q

theorem put_other (i : Nat) : ∀ (h : List (Nat × ByteArray)) (l : List ByteArray), (∃ p ∈ h, p.1 = i) ∨ (h.foldl DevS.put l)[i]? = l[i]?
  | [], l => .inr rfl
  | p :: h, l => by
    rcases put_other i h (DevS.put l p) with ⟨q, hq, e⟩ | q
    · exact .inl ⟨q, by simp [hq], e⟩
    · by_cases e : p.1 = i
      · exact .inl ⟨p, by simp, e⟩
      · right
        rw [List.foldl_cons, q, DevS.put, List.getElem?_set_ne e]

/-- A crash that keeps nothing. -/
theorem Inv.lost {d : DevS} {nows safes : List UInt8} {i : Nat} (h : Inv d nows safes i) : (d.crash []).now = safes.map blk ∧ (d.crash []).down = false := by
  refine ⟨?_, by simp [DevS.down, DevS.crash]⟩
  simp only [DevS.crash, DevS.crashed, List.zip_nil_right, List.foldl_nil]
  rw [← h.safe]
  refine back_all d.safe d.held d.now ?_ ?_
  · rw [h.len, h.safe]; simp [h.s8]
  · intro i
    rw [← h.held]
    exact put_other i d.held d.safe

theorem tear_one (h : List (Nat × ByteArray)) (hs : ∀ p ∈ h, p.2.size = 512) : ∀ (l : List ByteArray), (∀ s ∈ l, s.size = 512) → (h.zip (List.replicate h.length (1 : Int))).foldl DevS.tear l = h.foldl DevS.put l := by
  induction h with
  | nil => intro l _; rfl
  | cons p h ih =>
    intro l hl
    simp only [List.length_cons, List.replicate_succ, List.zip_cons_cons, List.foldl_cons]
    have e : DevS.tear l (p, 1) = DevS.put l p := by
      have hp := hs p (by simp)
      simp only [DevS.tear, DevS.put]
      by_cases hlt : p.1 < l.length
      · congr 1
        have ht : (l.getD p.1 ByteArray.empty).size = 512 := hl _ (by simp [hlt])
        rw [show DevS.kept 1 = 512 from rfl, ← torn_eq]
        rw [← ht, ByteArray.extract_same, ByteArray.append_empty, ht, ← hp, ByteArray.extract_zero_size]
      · rw [List.set_eq_of_length_le (by omega), List.set_eq_of_length_le (by omega)]
    rw [e]
    refine ih (fun q hq => hs q (by simp [hq])) _ ?_
    intro s hs'
    rcases List.mem_or_eq_of_mem_set hs' with q | q
    · exact hl s q
    · rw [q]; exact hs p (by simp)

/-- A crash that keeps all. -/
theorem Inv.kept {d : DevS} {nows safes : List UInt8} {i : Nat} (h : Inv d nows safes i) (hwf : d.Wf) : (d.crash (List.replicate d.held.length 1)).now = nows.map blk ∧ (d.crash (List.replicate d.held.length 1)).down = false := by
  refine ⟨?_, by simp [DevS.down, DevS.crash]⟩
  have hc : d.crashed (List.replicate d.held.length 1) = d.now := by
    simp only [DevS.crashed]
    rw [tear_one d.held (fun p hp => (hwf.held p hp).2) d.safe hwf.safe, h.held]
  simp only [DevS.crash, hc]
  rw [← h.now]
  exact back_all d.now d.held d.now rfl (fun _ => .inr rfl)

theorem read_at {d : DevS} (l : List UInt8) (hl : l.length = 8) (hn : d.now = l.map blk) (hd : d.down = false) (i : Nat) (hi : i < 8) : d.read i = (blk (l.getD i 0), 0) := by
  have h8 : d.now.length = 8 := by rw [hn]; simp [hl]
  simp only [DevS.read, hd, h8]
  rw [if_pos (by omega), if_neg (by simp)]
  rw [hn]
  simp [hl, hi]

theorem keepAt {W : World} {G : List Nat} {p : Option Addr} {n q : Nat} (h : W.ownsRow 0 3 1 (.slice p n q) n (List.replicate n (.int .i64 1))) (hG : ∀ g, p = some ⟨g, 0, none⟩ → g ∉ G) : IntsIn W G (.slice p n q) (List.replicate n 1) := by
  by_cases hn : n = 0
  · subst hn
    rcases h.2 with ⟨h1, _⟩ | ⟨g, cap, cur, hv, _, hg, _⟩
    · simp only [Value.slice.injEq] at h1
      obtain ⟨rfl, _, rfl⟩ := h1
      exact .inl ⟨0, rfl, rfl⟩
    · simp only [Value.slice.injEq] at hv
      obtain ⟨rfl, _, rfl⟩ := hv
      exact .inr ⟨g, 0, q, rfl, hG g rfl, lt_of_block hg, by simp⟩
  · obtain ⟨g, rfl, hg, hc⟩ := ownsRow_cellAt h (by omega)
    refine .inr ⟨g, 0, q, by simp, hG g rfl, hg, fun j x hx => ?_⟩
    have hj : j < n := by have := (List.getElem?_eq_some_iff.1 hx).1; simpa using this
    have hx1 : x = 1 := by simpa [hj] using hx.symm
    subst hx1
    rw [Nat.zero_add]
    exact hc j _ (by simp [hj])

theorem Try.infoInt : (Try.prog.info? 3).map (fun i => (i.zero, i.size, i.bytes)) = some (some (.int .i64 0), 1, 8) := by kernel_rfl

theorem eight (l : List UInt8) (h : l.length = 8) : ∃ x0 x1 x2 x3 x4 x5 x6 x7, l = [x0, x1, x2, x3, x4, x5, x6, x7] := by
  match l, h with
  | [x0, x1, x2, x3, x4, x5, x6, x7], _ => exact ⟨x0, x1, x2, x3, x4, x5, x6, x7, rfl⟩

theorem sep_copy8 {w W : World} {h : Nat} {e : TypeId} {f : Nat × Nat} {l : List Res} (x0 x1 x2 x3 x4 x5 x6 x7 y0 y1 y2 y3 y4 y5 y6 y7 : UInt8) (hs : Sep w W (blkRes h (.cells (byteCells [y0, y1, y2, y3, y4, y5, y6, y7]).toArray e f) :: l)) :
    Sep w ((((((((W.setCell ⟨h, 0, none⟩ (.int .u8 (x0.toNat : Int))).setCell ⟨h, 1, none⟩ (.int .u8 (x1.toNat : Int))).setCell ⟨h, 2, none⟩ (.int .u8 (x2.toNat : Int))).setCell ⟨h, 3, none⟩ (.int .u8 (x3.toNat : Int))).setCell ⟨h, 4, none⟩ (.int .u8 (x4.toNat : Int))).setCell ⟨h, 5, none⟩ (.int .u8 (x5.toNat : Int))).setCell ⟨h, 6, none⟩ (.int .u8 (x6.toNat : Int))).setCell ⟨h, 7, none⟩ (.int .u8 (x7.toNat : Int))) (blkRes h (.cells (byteCells [x0, x1, x2, x3, x4, x5, x6, x7]).toArray e f) :: l) := by
  have := ((((((((hs.store 0 (.int .u8 (x0.toNat : Int))).store 1 (.int .u8 (x1.toNat : Int))).store 2 (.int .u8 (x2.toNat : Int))).store 3 (.int .u8 (x3.toNat : Int))).store 4 (.int .u8 (x4.toNat : Int))).store 5 (.int .u8 (x5.toNat : Int))).store 6 (.int .u8 (x6.toNat : Int))).store 7 (.int .u8 (x7.toNat : Int)))
  simpa [byteCells] using this

/-- The parts of memory: two devices, two arrays of bytes. -/
def parts (a b g h : Nat) (d : DevS) (nows safes : List UInt8) : List Res :=
  [devRes a d, devRes b d, blkRes g (.cells (byteCells nows).toArray 42 (0, 0)), blkRes h (.cells (byteCells safes).toArray 42 (0, 0))]

def LoopAt (w : World) (a b g h : Nat) (n i : Nat) (W : World) : Prop :=
  ∃ d nows safes, Sep w W (parts a b g h d nows safes) ∧ Inv d nows safes i ∧ n = d.held.length

set_option maxRecDepth 100000 in
set_option maxHeartbeats 2000000 in
theorem walk (p : Option Addr) (l : List StepD) (q : Nat) (w : World) (hl : ((l.length : Nat) : Int) ≤ 9223372036854775807) (hst : StepsAt w p l) :
    Calls Try.prog 4 #[.slice p l.length q] w fun e w' => e = .returned (.bool true) ∧ Only [] w w' := by
  have hnew := sep_new (Sep.nil w) 8 (by omega) (by omega)
  have HST := Lib.hid hst; clear hst
  go_enter Try.func4, Try.ntmps4
  go_wp2_with fail
  refine hnew.mono ?_
  rintro e w1 ⟨a, rfl, hs1⟩
  have hnew2 := sep_new hs1 8 (by omega) (by omega)
  clear hs1 hnew
  go_wp2_with fail
  refine hnew2.mono ?_
  rintro e w2 ⟨b, rfl, hs2⟩
  clear hnew2
  have HS2 := Lib.hid hs2; clear hs2
  go_wp2_with fail
  have hL : LoopAt w a b w2.heap.size (w2.heap.size + 1) 0 0 ((w2.alloc (.cells #[.int .u8 0, .int .u8 0, .int .u8 0, .int .u8 0, .int .u8 0, .int .u8 0, .int .u8 0, .int .u8 0] 42)).alloc (.cells #[.int .u8 0, .int .u8 0, .int .u8 0, .int .u8 0, .int .u8 0, .int .u8 0, .int .u8 0, .int .u8 0] 42)) := by
    have s1 := (HS2.out.alloc #[.int .u8 0, .int .u8 0, .int .u8 0, .int .u8 0, .int .u8 0, .int .u8 0, .int .u8 0, .int .u8 0] 42).alloc #[.int .u8 0, .int .u8 0, .int .u8 0, .int .u8 0, .int .u8 0, .int .u8 0, .int .u8 0, .int .u8 0] 42
    rw [show (w2.alloc (.cells #[.int .u8 0, .int .u8 0, .int .u8 0, .int .u8 0, .int .u8 0, .int .u8 0, .int .u8 0, .int .u8 0] 42)).heap.size = w2.heap.size + 1 from by simp] at s1
    exact ⟨DevS.new 8, List.replicate 8 0, List.replicate 8 0, s1.perm (List.reverse_perm _).symm, ⟨rfl, rfl, rfl, rfl, rfl, rfl, rfl, Nat.le_refl _, by simp [DevS.new]⟩, rfl⟩
  have HL := Lib.hid hL; clear hL HS2
  obtain ⟨g, hg⟩ : ∃ g, g = w2.heap.size := ⟨_, rfl⟩
  obtain ⟨h, hh⟩ : ∃ h, h = w2.heap.size + 1 := ⟨_, rfl⟩
  rw [← hh, ← hg] at HL
  rw [← hh, ← hg]
  have HGH : Hid (g ≠ h) := by rw [hg, hh]; intro e; omega
  clear hg hh
  go_loopw [9, 10] (fun s9 s10 wr => ∃ n i : Nat, i ≤ l.length ∧ i ≤ 60 ∧ s9 = .int .i64 n ∧ s10 = .int .i64 i ∧ LoopAt w a b g h n i wr) (fun _ s10 _ => l.length - (intOf s10).toNat)
  case atStart => exact ⟨0, 0, Nat.zero_le _, Nat.zero_le _, rfl, rfl, HL.out⟩
  case round =>
    obtain ⟨n, i, hi1, hi2, rfl, rfl, d, nows, safes, hs, hinv, hnn⟩ := hrel
    have HS := Lib.hid hs; clear hs
    have HI := Lib.hid hinv; clear hinv
    have HN := Lib.hid hnn; clear hnn HL
    have hfew := HI.out.few
    have hheld : d.held.length ≤ 1000000 := by omega
    have hn60 : n ≤ 60 := by have := HN.out; omega
    by_cases hlt : i < l.length ∧ i < 60
    · obtain ⟨hlt1, hlt2⟩ := hlt
      obtain ⟨b', o, hp, hb, r1, r2, r3, r4, r5, c0, c1, c2, c3, c4, ci⟩ := HST.out i l[i] (List.getElem?_eq_getElem hlt1)
      subst hp
      generalize l[i] = x at *
      clear c2 c4 ci r4 r5 r3
      obtain ⟨r2a, r2b⟩ := r2
      have hkeep : ∀ W', Only [] w W' → W'.cell? ⟨b', o + i * 5 + 1, none⟩ = some (.int .i64 x.place) ∧ W'.cell? ⟨b', o + i * 5 + 3, none⟩ = some (.int .u8 (x.fill.toNat : Int)) :=
        fun W' ho => ⟨by rw [ho.cell hb (by simp)]; exact c1, by rw [ho.cell hb (by simp)]; exact c3⟩
      have d0 : wr.cell? ⟨b', o + i * 5, none⟩ = some (.int .i64 x.kind) := by rw [HS.out.old.cell hb (by simp)]; exact c0
      have d1 := (hkeep wr HS.out.old).1
      have d3 := (hkeep wr HS.out.old).2
      have HKP := Lib.hid hkeep; clear hkeep
      clear c0 c1 c3
      by_cases hkind : (x.kind == 2) = true
      · go_wp2_with fail
        refine (sep_flush HS.out hheld).mono ?_
        rw [HI.out.flush.1]
        rintro e w3 ⟨rfl, hs3⟩
        have hs3' := hs3.up1
        clear hs3
        go_wp2_with fail
        refine (sep_flush hs3' hheld).mono ?_
        rw [HI.out.flush.1]
        rintro e w4 ⟨rfl, hs4⟩
        have hs4' := hs4.up1
        clear hs4 hs3'
        obtain ⟨x0, x1, x2, x3, x4, x5, x6, x7, rfl⟩ := eight nows HI.out.n8
        obtain ⟨y0, y1, y2, y3, y4, y5, y6, y7, rfl⟩ := eight safes HI.out.s8
        have hg4 := hs4'.up2.blk
        have hh4 := hs4'.up3.blk
        have gx0 : w4.cell? ⟨g, 0, none⟩ = some (.int .u8 (x0.toNat : Int)) := cell_of_block hg4 0 rfl
        have gy0 : w4.cell? ⟨h, 0, none⟩ = some (.int .u8 (y0.toNat : Int)) := cell_of_block hh4 0 rfl
        have gf0 := free_of_block hh4 0
        have gx1 : w4.cell? ⟨g, 1, none⟩ = some (.int .u8 (x1.toNat : Int)) := cell_of_block hg4 1 rfl
        have gy1 : w4.cell? ⟨h, 1, none⟩ = some (.int .u8 (y1.toNat : Int)) := cell_of_block hh4 1 rfl
        have gf1 := free_of_block hh4 1
        have gx2 : w4.cell? ⟨g, 2, none⟩ = some (.int .u8 (x2.toNat : Int)) := cell_of_block hg4 2 rfl
        have gy2 : w4.cell? ⟨h, 2, none⟩ = some (.int .u8 (y2.toNat : Int)) := cell_of_block hh4 2 rfl
        have gf2 := free_of_block hh4 2
        have gx3 : w4.cell? ⟨g, 3, none⟩ = some (.int .u8 (x3.toNat : Int)) := cell_of_block hg4 3 rfl
        have gy3 : w4.cell? ⟨h, 3, none⟩ = some (.int .u8 (y3.toNat : Int)) := cell_of_block hh4 3 rfl
        have gf3 := free_of_block hh4 3
        have gx4 : w4.cell? ⟨g, 4, none⟩ = some (.int .u8 (x4.toNat : Int)) := cell_of_block hg4 4 rfl
        have gy4 : w4.cell? ⟨h, 4, none⟩ = some (.int .u8 (y4.toNat : Int)) := cell_of_block hh4 4 rfl
        have gf4 := free_of_block hh4 4
        have gx5 : w4.cell? ⟨g, 5, none⟩ = some (.int .u8 (x5.toNat : Int)) := cell_of_block hg4 5 rfl
        have gy5 : w4.cell? ⟨h, 5, none⟩ = some (.int .u8 (y5.toNat : Int)) := cell_of_block hh4 5 rfl
        have gf5 := free_of_block hh4 5
        have gx6 : w4.cell? ⟨g, 6, none⟩ = some (.int .u8 (x6.toNat : Int)) := cell_of_block hg4 6 rfl
        have gy6 : w4.cell? ⟨h, 6, none⟩ = some (.int .u8 (y6.toNat : Int)) := cell_of_block hh4 6 rfl
        have gf6 := free_of_block hh4 6
        have gx7 : w4.cell? ⟨g, 7, none⟩ = some (.int .u8 (x7.toNat : Int)) := cell_of_block hg4 7 rfl
        have gy7 : w4.cell? ⟨h, 7, none⟩ = some (.int .u8 (y7.toNat : Int)) := cell_of_block hh4 7 rfl
        have gf7 := free_of_block hh4 7
        have HR : Hid (LoopAt w a b g h 0 (i + 1) ((((((((w4.setCell ⟨h, 0, none⟩ (.int .u8 (x0.toNat : Int))).setCell ⟨h, 1, none⟩ (.int .u8 (x1.toNat : Int))).setCell ⟨h, 2, none⟩ (.int .u8 (x2.toNat : Int))).setCell ⟨h, 3, none⟩ (.int .u8 (x3.toNat : Int))).setCell ⟨h, 4, none⟩ (.int .u8 (x4.toNat : Int))).setCell ⟨h, 5, none⟩ (.int .u8 (x5.toNat : Int))).setCell ⟨h, 6, none⟩ (.int .u8 (x6.toNat : Int))).setCell ⟨h, 7, none⟩ (.int .u8 (x7.toNat : Int)))) := ⟨d.flush.2, [x0, x1, x2, x3, x4, x5, x6, x7], [x0, x1, x2, x3, x4, x5, x6, x7], (sep_copy8 x0 x1 x2 x3 x4 x5 x6 x7 y0 y1 y2 y3 y4 y5 y6 y7 hs4'.up3).dn3, HI.out.flush.2.2, by rw [HI.out.flush.2.1]; rfl⟩
        clear hs4' hg4 hh4 d0 d1 d3 HKP HS hkind
        go_wp2_with fail
        go_roundw
        case rel => exact ⟨0, i + 1, by omega, by omega, rfl, by go_num, HR.out⟩
        case measure => simp [intOf]; omega
      · have hkind' : (x.kind == 2) = false := by simpa using hkind
        clear hkind
        obtain ⟨m, hm⟩ : ∃ m : Nat, x.place % 8 = (m : Int) := ⟨(x.place % 8).toNat, by omega⟩
        have hm8 : m < 8 := by omega
        have HM := Lib.hid hm; clear hm
        have E := HI.out.write m hm8 x.fill
        have HE := Lib.hid E; clear E
        have hg3 := HS.out.up2.blk
        obtain ⟨u, hu⟩ : ∃ u, wr.cell? ⟨g, m, none⟩ = some u := cell_in hg3 (by simp [byteCells, HI.out.n8, hm8])
        have gf := free_of_block hg3 m
        clear hg3
        go_wp2_with fail
        refine (mod_any x.place 8 _ (by omega) (by omega) r2a r2b).mono ?_
        rintro e w3 ⟨rfl, rfl⟩
        rw [HM.out]
        have hs3 := (HS.out.up2.store m (.int .u8 (x.fill.toNat : Int))).dn2
        rw [byteCells_set] at hs3
        have HS3 := Lib.hid hs3; clear hs3
        have e3 := (HKP.out _ HS3.out.old).2
        go_wp2_with fail
        refine (block_any x.fill _).mono ?_
        rintro e w4 ⟨rfl, ho4⟩
        have HS4 := Lib.hid (HS3.out.only ho4); clear ho4
        go_wp2_with fail
        refine (sep_write m (blk x.fill) HS4.out hheld).mono ?_
        rw [HE.out.1]
        rintro e w5 ⟨rfl, hs5⟩
        have HS5 := Lib.hid hs5.up1; clear hs5 d0 d1 d3 e3 hu gf
        have e5 := (HKP.out _ HS5.out.old).2
        go_wp2_with fail
        refine (block_any x.fill _).mono ?_
        rintro e w6 ⟨rfl, ho6⟩
        have HS6 := Lib.hid (HS5.out.only ho6); clear ho6
        go_wp2_with fail
        refine (sep_write m (blk x.fill) HS6.out hheld).mono ?_
        rw [HE.out.1]
        rintro e w7 ⟨rfl, hs7⟩
        have HR : Hid (LoopAt w a b g h (n + 1) (i + 1) w7) := ⟨_, _, _, hs7.up1, HE.out.2.2, by rw [HE.out.2.1, HN.out]⟩
        clear hs7 e5
        go_wp2_with fail
        go_roundw
        case rel => exact ⟨n + 1, i + 1, by omega, by omega, by go_num, by go_num, HR.out⟩
        case measure => simp [intOf]; omega
    · have hguard : (i < l.length ∧ ¬ i < 60) ∨ ¬ i < l.length := by omega
      rcases hguard with ⟨g1, g2⟩ | g1
      all_goals
        go_wp2_with fail
        go_loopw [12, 13] (fun s12 s13 wq => ∃ (j : Nat) (kp : Option Addr) (kq : Nat), j ≤ n ∧ s12 = .slice kp j kq ∧ s13 = .int .i64 j ∧ Sep w wq (rowRes 3 1 (.slice kp j kq) j (List.replicate j (.int .i64 1)) :: parts a b g h d nows safes)) (fun _ s13 _ => n - (intOf s13).toNat)
        case atStart => exact ⟨0, none, 0, Nat.zero_le _, rfl, rfl, HS.out.row_nil _ _⟩
        case round =>
          obtain ⟨j, kp, kq, hj1, rfl, rfl, hsj⟩ := hrel
          have HSJ := Lib.hid hsj; clear hsj
          by_cases hlt2 : j < n
          · obtain ⟨ii, II⟩ := info_of Try.infoInt
            go_wp2_with (at_builtin; go_must (refine wpList_append_sep (e := 3) (w := w) (l := parts a b g h d nows safes) rfl (.tmp 100) (.tmp 101) 23 rfl ii _ 1 8 Try.underlying23 II.out rfl (by decide) _ j _ rfl rfl (by simp) rfl ?one HSJ.out (by unfold maxLen; omega) (by omega) ?_))
            case one => rfl
            intro kp' kq' w8 hs8
            have HS8 : Hid (Sep w w8 (rowRes 3 1 (.slice kp' (j + 1) kq') (j + 1) (List.replicate (j + 1) (.int .i64 1)) :: parts a b g h d nows safes)) := by
              rw [List.replicate_succ']; exact hs8
            clear hs8
            go_wp2_with fail
            go_roundw
            case rel => exact ⟨j + 1, kp', kq', by omega, by go_num, by go_num, HS8.out⟩
            case measure => simp [intOf]; omega
          · obtain rfl : j = n := by omega
            have hlen : (d.held.length : Int) = (j : Int) := by have := HN.out; omega
            have HLEN := Lib.hid hlen; clear hlen
            have hlost := HI.out.lost
            have hkept := HI.out.kept (sep_wf HS.out)
            rw [← HN.out] at hkept
            have HLO := Lib.hid hlost; clear hlost
            have HKE := Lib.hid hkept; clear hkept
            go_wp2_with fail
            refine (sep_held HSJ.out.up1).mono ?_
            rintro e w8 ⟨rfl, rfl⟩
            rw [HLEN.out]
            go_wp2_with fail
            refine (sep_crash2 (.slice kp j kq) (List.replicate j 1) HSJ.out.up1 hheld (by
              intro F G hF hG hd
              refine keepAt hG.1 ?_
              intro gg hgg q
              refine hd gg q ?_
              rw [hG.2, hgg]
              simp [Value.ownBlock]) (by simp; omega)).mono ?_
            rintro e w9 ⟨rfl, hs9⟩
            have HS9 := Lib.hid (hs9.up2); clear hs9
            go_wp2_with fail
            refine (sep_crash_nil HS9.out hheld).mono ?_
            rintro e w10 ⟨rfl, hs10⟩
            have HS10 : Hid (Sep w w10 [devRes a (d.crash (List.replicate j 1)), devRes b (d.crash []), blkRes g (.cells (byteCells nows).toArray 42 (0, 0)), blkRes h (.cells (byteCells safes).toArray 42 (0, 0))]) := hs10.up1.up2.tail.up1.up1
            clear hs10
            go_wp2_with fail
            go_loopw [14] (fun s14 wt => ∃ t : Nat, t ≤ 8 ∧ s14 = .int .i64 t ∧ Sep w wt [devRes a (d.crash (List.replicate j 1)), devRes b (d.crash []), blkRes g (.cells (byteCells nows).toArray 42 (0, 0)), blkRes h (.cells (byteCells safes).toArray 42 (0, 0))]) (fun s14 _ => 8 - (intOf s14).toNat)
            case atStart => exact ⟨0, by omega, rfl, HS10.out⟩
            case round =>
              obtain ⟨t, ht, rfl, hst⟩ := hrel
              have HT := Lib.hid hst; clear hst
              by_cases ht8 : t < 8
              · have ra := read_at nows HI.out.n8 HKE.out.1 HKE.out.2 t ht8
                have rb := read_at safes HI.out.s8 HLO.out.1 HLO.out.2 t ht8
                have RA := Lib.hid ra; clear ra
                have RB := Lib.hid rb; clear rb
                have cg : wr.cell? ⟨g, t, none⟩ = some (.int .u8 ((nows.getD t 0).toNat : Int)) := cell_of_block HT.out.up2.blk t (by simp [byteCells, HI.out.n8, ht8])
                generalize nows.getD t 0 = x at *
                have hy : ∃ y, y = safes.getD t 0 := ⟨_, rfl⟩
                obtain ⟨y, hy⟩ := hy
                have hych : ∀ W, Sep w W [devRes a (d.crash (List.replicate j 1)), devRes b (d.crash []), blkRes g (.cells (byteCells nows).toArray 42 (0, 0)), blkRes h (.cells (byteCells safes).toArray 42 (0, 0))] → W.cell? ⟨h, t, none⟩ = some (.int .u8 (y.toNat : Int)) := by
                  intro W hW
                  rw [hy]
                  exact cell_of_block hW.up3.blk t (by simp [byteCells, HI.out.s8, ht8])
                have HY := Lib.hid hych; clear hych
                rw [← hy] at RB
                clear hy
                go_wp2_with fail
                refine (sep_read t HT.out).mono ?_
                rintro e w11 ⟨rfl, rfl⟩
                rw [RA.out]
                go_wp2_with fail
                refine (sep_read t HT.out.up1).mono ?_
                rintro e w11 ⟨rfl, rfl⟩
                rw [RB.out]
                go_wp2_with fail
                refine (block_any x _).mono ?_
                rintro e w12 ⟨rfl, ho12⟩
                have HT2 := Lib.hid (HT.out.only ho12); clear ho12
                have ch := HY.out _ HT2.out
                go_wp2_with fail
                refine (block_any y _).mono ?_
                rintro e w13 ⟨rfl, ho13⟩
                have HT3 := Lib.hid (HT2.out.only ho13); clear ho13
                clear cg ch
                go_wp2_with fail
                go_roundw
                case rel => exact ⟨t + 1, by omega, by go_num, HT3.out⟩
                case measure => simp [intOf]; omega
              · have HO := Lib.hid HT.out.old
                go_wp2_with fail
                refine (wakes_any _).mono ?_
                rintro e w14 ⟨rfl, ho14⟩
                have HO2 := Lib.hid (HO.out.trans ho14 (Within.nil _ _)); clear ho14
                go_wp2_with fail
                go_ret
                exact ⟨rfl, HO2.out⟩

theorem own : ownKnob Try.prog.godebug = none := by kernel_rfl
theorem laidOut : laidOutB Try.prog = true := by kernel_rfl

set_option maxRecDepth 100000 in
theorem lifted (os : Os) (started : os.Started) (H : Type) (enc : TypeId × Value → H) :
    ReturnsInHanded {} Try.checked os 4 .any (Rows.devAllSpec.pre6 enc Try.prog Try.f4 Rows.devAllRow.domain false) (Rows.devAllSpec.post enc Try.prog Try.f4 false true false false) := by
  refine returnsInHanded_of_change (C := Try.checked) own started (by kernel_rfl) Try.func4
    (ChangeSpec.witness6 (enc := enc) (C := Try.checked) false ⟨#[], #[.slice none 0 0], []⟩ 8 (by kernel_rfl) (by kernel_rfl) (by kernel_rfl) (by kernel_rfl)) ?_
  intro W base args ds gs before hval0 hW hcnd _
  have hval : ∀ (j : Nat) t v, Try.f4.params[j]? = some t → args[j]? = some v → Value.okWide Try.prog W .any base t v := hval0
  have hW' := hW
  obtain ⟨pp, pq, hA0, hV, rfl, hfz, hnd⟩ := hW
  have hA : DataW.TrodAll enc Try.prog W 0 (fun _ => true) true Try.f4.params.toList args.toList ds pp := hA0
  rw [Try.params4] at hA hval
  obtain ⟨v0, vs0, d0, ds0, p0, q0, hargs, rfl, rfl, h0, r0⟩ := trodAll_cons hA
  obtain ⟨rfl, rfl, rfl⟩ := trodAll_nil r0
  obtain rfl : args = #[v0] := by cases args; simp_all
  obtain ⟨rfl, rfl⟩ := trodVars_none hV
  obtain ⟨sp0, sl0, sq0, rfl, hl0, hst0⟩ := open_steps (W := W) (v := v0) (by
    obtain ⟨a, len, cap, rfl⟩ := okWide_slice Try.underlying22 (hval 0 22 v0 rfl rfl)
    exact ⟨a, len, cap, rfl⟩) h0
  clear hA0 hval0
  simp only [List.append_nil, List.nil_append] at hW'
  refine (walk sp0 sl0 sq0 W hl0 hst0).mono fun e W' ⟨he, hg⟩ => ?_
  subst he
  have hb : Below W.heap.size W W' := hg.below (Nat.le_refl _) (by simp)
  have hargs := (trodAll_cons_mk (Below.trod laidOut (by kernel_rfl) (of_decide_eq_true (by kernel_rfl)) h0 hb (fun x hx => hW'.lt x (by simp [hx]))) trodAll_mk0)
  simp only [List.append_nil, List.nil_append] at hargs
  exact ⟨_, rfl, _, _, _, [], _, [], hW', trodAll_cons_mk (shut_bool Try.underlying4 _) trodAll_mk0, hargs, rfl, hb.frame _, fun h => by cases h⟩

theorem over : Rows.devAllRow.holds Try.pinned (OpenSpec.ofChange Rows.devAllSpec) :=
  OpenClaim.holds_of_wide 4 Try.f4 rfl rfl rfl rfl rfl rfl rfl ⟨rfl, rfl, rfl, rfl, rfl⟩ rfl rfl rfl rfl rfl (by kernel_rfl) Try.func4 (by kernel_rfl)
    (of_decide_eq_true (by kernel_rfl)) (by unfold Func.isWrapper; first | (rw [if_pos (by decide +kernel)]; kernel_rfl) | (rw [if_neg (by decide +kernel)]; exact ⟨rfl, rfl⟩))
    (fun os started H enc _ => lifted os started H enc)

theorem proved : Rows.DevAllSaid := over
#print axioms proved
end Go.Proofs.Ytaipjialomjhhaa.devAll
