/-
  What is proved here: '(*dev.Dev).Crash' comes to what its plain twin 'DevS.crash' says; only the device's own blocks are turned.
  Conditions: the device lies in memory as 'IsDev' says; at most a million writes are held back; the list of what is kept lies outside the device.
-/
import Derived.Test.YtaipjialomjhhaaDevFlush
namespace Go.Proofs.Ytaipjialomjhhaa
open Go.RowKit

theorem kept_any (c : Int) (w : World) : Calls Try.prog 38 #[.int .i64 c] w fun e w' => e = .returned (.int .i64 (DevS.kept c : Int)) ∧ w = w' := by
  by_cases h1 : c = 1
  · subst h1
    go_enter Try.func38, Try.ntmps38
    go_wp2
    go_ret
    exact ⟨rfl, rfl⟩
  · by_cases h2 : 2 ≤ c
    · by_cases h3 : c ≤ 513
      · have hv : ((DevS.kept c : Nat) : Int) = c - 2 := by unfold DevS.kept; rw [if_neg h1, if_pos ⟨h2, h3⟩]; omega
        rw [hv]
        have hc : (c == 1) = false := by simpa using h1
        go_enter Try.func38, Try.ntmps38
        go_wp2
        go_ret
        exact ⟨rfl, rfl⟩
      · have hv : ((DevS.kept c : Nat) : Int) = 0 := by unfold DevS.kept; rw [if_neg h1, if_neg (by omega)]; rfl
        rw [hv]
        have hc : (c == 1) = false := by simpa using h1
        go_enter Try.func38, Try.ntmps38
        go_wp2
        go_ret
        exact ⟨rfl, rfl⟩
    · have hv : ((DevS.kept c : Nat) : Int) = 0 := by unfold DevS.kept; rw [if_neg h1, if_neg (by omega)]; rfl
      rw [hv]
      have hc : (c == 1) = false := by simpa using h1
      go_enter Try.func38, Try.ntmps38
      go_wp2
      go_ret
      exact ⟨rfl, rfl⟩

theorem kept_le (c : Int) : DevS.kept c ≤ 512 := by
  unfold DevS.kept
  split
  · omega
  · split <;> omega

/-- A value that is a slice of whole numbers, whose cells lie in blocks that G doesn't hold. -/
def IntsIn (w : World) (G : List Nat) (v : Value) (l : List Int) : Prop :=
  (∃ q, v = .slice none 0 q ∧ l = []) ∨ ∃ b o q, v = .slice (some ⟨b, o, none⟩) l.length q ∧ b ∉ G ∧ b < w.heap.size ∧ ∀ j x, l[j]? = some x → w.cell? ⟨b, o + j, none⟩ = some (.int .i64 x)

theorem tearAll_length (l : List ByteArray) (h : List ((Nat × ByteArray) × Int)) : (h.foldl DevS.tear l).length = l.length := by
  induction h generalizing l with
  | nil => rfl
  | cons p h ih => simp [ih, DevS.tear]
theorem backAll_length (s l : List ByteArray) (h : List (Nat × ByteArray)) : (h.foldl (DevS.back s) l).length = l.length := by
  induction h generalizing l with
  | nil => rfl
  | cons p h ih => simp [ih, DevS.back]

theorem torn_eq (s t : ByteArray) (n : Nat) : s.extract 0 n ++ t.extract n t.size = DevS.torn s t n := by
  apply ByteArray.ext
  apply Array.ext'
  simp only [DevS.torn, ByteArray.data_append, ByteArray.data_extract, ByteArray.size, Array.toList_append, Array.toList_extract, List.extract_eq_take_drop, List.drop_zero, Nat.sub_zero]
  congr 1
  rw [List.take_of_length_le (by simp)]

def TornAll (bs : Nat) (d : DevS) (keep : List Int) (w wr : World) : Prop :=
  Only [bs] w wr ∧ wr.heap[bs]? = some (.cells (((d.crashed keep).map Value.string).toArray) 9 (0, 0))

def TornAt (bs : Nat) (d : DevS) (keep : List Int) (w : World) (k : Nat) (wr : World) : Prop :=
  Only [bs] w wr ∧ wr.heap[bs]? = some (.cells (((((d.held.zip keep).take k).foldl DevS.tear d.safe).map Value.string).toArray) 9 (0, 0))

theorem tear_cell {W : World} {bs : Nat} {L : List ByteArray} {e : TypeId} {f : Nat × Nat} (h : W.heap[bs]? = some (.cells (L.map Value.string).toArray e f)) {i : Nat} (hi : i < L.length) : W.cell? ⟨bs, i, none⟩ = some (.string (L.getD i ByteArray.empty)) := by
  refine cell_of_block h i ?_
  simp [hi]

theorem torn_size {s t : ByteArray} {n : Nat} (h : s.size = t.size) (hn : n ≤ s.size) : (DevS.torn s t n).size = t.size := by
  simp only [DevS.torn, ByteArray.size, List.size_toArray, List.length_append, List.length_take, List.length_drop, Array.length_toList] at *
  omega

theorem tear_size (h : List ((Nat × ByteArray) × Int)) (l : List ByteArray) (hl : ∀ s ∈ l, s.size = 512) (hh : ∀ p ∈ h, p.1.2.size = 512) {i : Nat} (hi : i < l.length) : ((h.foldl DevS.tear l).getD i ByteArray.empty).size = 512 := by
  have hall : ∀ s ∈ h.foldl DevS.tear l, s.size = 512 := by
    clear hi
    induction h generalizing l with
    | nil => exact hl
    | cons p h ih =>
      refine ih _ ?_ (fun q hq => hh q (by simp [hq]))
      intro s hs
      by_cases hp : p.1.1 < l.length
      · rcases List.mem_or_eq_of_mem_set hs with q | q
        · exact hl s q
        · rw [q]
          have ht : (l.getD p.1.1 ByteArray.empty).size = 512 := hl _ (by simp [hp])
          rw [torn_size (by rw [ht]; exact hh p (by simp)) (by rw [hh p (by simp)]; exact kept_le _), ht]
      · rw [DevS.tear, List.set_eq_of_length_le (by omega)] at hs
        exact hl s hs
  have hlen : i < (h.foldl DevS.tear l).length := by rw [tearAll_length]; exact hi
  refine hall _ ?_
  simp [hlen]

theorem torn_next {bs : Nat} {d : DevS} {keep : List Int} {w W : World} {k : Nat} (hlt : k < d.held.length) (hlk : k < keep.length) (ho : Only [bs] w W)
    (hs : W.heap[bs]? = some (.cells (((((d.held.zip keep).take k).foldl DevS.tear d.safe).map Value.string).toArray) 9 (0, 0))) :
    TornAt bs d keep w (k + 1) (W.drew.setCell ⟨bs, d.held[k].1, none⟩ (.string (DevS.torn d.held[k].2 ((((d.held.zip keep).take k).foldl DevS.tear d.safe).getD d.held[k].1 ByteArray.empty) (DevS.kept keep[k])))) := by
  refine ⟨(ho.trans (Only.drew [bs] W) (Within.refl _ _)).trans (Only.cellAt _ bs _ _) (Within.refl _ _), ?_⟩
  have hz : k < (d.held.zip keep).length := by simp; omega
  rw [heap_setCell_self (w := W.drew) hs, List.take_succ_eq_append_getElem hz, List.foldl_append]
  simp [DevS.tear, List.map_set]

def BackAt (bn bs : Nat) (d : DevS) (keep : List Int) (w : World) (k : Nat) (wr : World) : Prop :=
  Only [bn, bs] w wr ∧ wr.heap[bs]? = some (.cells (((d.crashed keep).map Value.string).toArray) 9 (0, 0)) ∧
    wr.heap[bn]? = some (.cells ((((d.held.take k).foldl (DevS.back (d.crashed keep)) d.now).map Value.string).toArray) 9 (0, 0))

theorem back_start {b bn bs : Nat} {hv : Value} {d : DevS} {keep : List Int} {w wr : World} (hd : DevAt w b bn bs hv d) (h : TornAll bs d keep w wr) : BackAt bn bs d keep w 0 wr :=
  ⟨h.1.mono (by simp), h.2, by simpa using h.1.keeps hd.now (by simpa using hd.n3)⟩

theorem back_next {bn bs : Nat} {d : DevS} {keep : List Int} {w W : World} {k : Nat} (hlt : k < d.held.length) (hne : bn ≠ bs) (ho : Only [bn, bs] w W)
    (hs : W.heap[bs]? = some (.cells (((d.crashed keep).map Value.string).toArray) 9 (0, 0)))
    (hn : W.heap[bn]? = some (.cells ((((d.held.take k).foldl (DevS.back (d.crashed keep)) d.now).map Value.string).toArray) 9 (0, 0))) :
    BackAt bn bs d keep w (k + 1) (W.drew.setCell ⟨bn, d.held[k].1, none⟩ (.string ((d.crashed keep).getD d.held[k].1 ByteArray.empty))) := by
  refine ⟨(ho.trans (Only.drew [bn, bs] W) (Within.refl _ _)).trans (G := [bn]) (Only.cellAt _ bn _ _) ?_, ?_, ?_⟩
  · intro x hx; left; simp at hx; simp [hx]
  · rw [heap_setCell_ne (by exact hne.symm)]; exact hs
  · rw [heap_setCell_self (w := W.drew) hn, List.take_succ_eq_append_getElem hlt, List.foldl_append]
    simp [DevS.back, List.map_set]

theorem tornAll_size {d : DevS} (h : d.Wf) (keep : List Int) : ∀ s ∈ d.crashed keep, s.size = 512 := by
  intro s hs
  obtain ⟨i, hi, rfl⟩ := List.getElem_of_mem hs
  have hl : i < d.safe.length := by simpa [DevS.crashed, tearAll_length] using hi
  have := tear_size (d.held.zip keep) d.safe h.safe (fun x hx => (h.held x.1 (List.of_mem_zip hx).1).2) hl
  rw [← this]
  congr 1
  rw [List.getD_eq_getElem?_getD, List.getElem?_eq_getElem (by exact hi)]
  rfl

theorem backAll_size {n : Nat} (sf : List ByteArray) (hsf : ∀ s ∈ sf, s.size = n) (h : List (Nat × ByteArray)) (l : List ByteArray) (hl : ∀ s ∈ l, s.size = n) (hh : ∀ p ∈ h, p.1 < sf.length) : ∀ s ∈ h.foldl (DevS.back sf) l, s.size = n := by
  induction h generalizing l with
  | nil => exact hl
  | cons p h ih =>
    refine ih _ ?_ (fun q hq => hh q (by simp [hq]))
    intro s hs
    rcases List.mem_or_eq_of_mem_set hs with q | q
    · exact hl s q
    · rw [q]
      exact hsf _ (by simp [hh p (by simp)])

theorem crash_wf {d : DevS} (h : d.Wf) (keep : List Int) : (d.crash keep).Wf := by
  refine ⟨?_, ?_, ?_, tornAll_size h keep, by simp [DevS.crash], h.l1, h.l2, by simp [DevS.crash], by simp [DevS.crash], h.o1, h.o2⟩
  · simp [DevS.crash, DevS.crashed, tearAll_length, backAll_length, h.same]
  · simpa [DevS.crash, backAll_length] using h.few
  · refine backAll_size _ (tornAll_size h keep) _ _ h.now ?_
    intro p hp
    have := (h.held p hp).1
    simp only [DevS.crashed, tearAll_length, h.same]
    exact this

theorem crash_done {w wr : World} {b bn bs : Nat} {hv : Value} {d : DevS} {keep : List Int} (hd : DevAt w b bn bs hv d) (h : BackAt bn bs d keep w d.held.length wr)
    (hb : wr.heap[b]? = some (.cells (devCells bn bs d.now.length hv d.armed d.left d.refused d.ops) 64 (0, 0))) :
    DevDid b (b :: bn :: bs :: hv.ownBlock.toList) w (.tuple #[]) (d.crash keep) (.returned (.tuple #[])) (((wr.setCell ⟨b, 2, none⟩ (.slice none 0 0)).setCell ⟨b, 3, none⟩ (.bool false)).setCell ⟨b, 5, none⟩ (.int .i64 0)) := by
  obtain ⟨ho, hs, hn⟩ := h
  have ho3 : Only [b] wr (((wr.setCell ⟨b, 2, none⟩ (.slice none 0 0)).setCell ⟨b, 3, none⟩ (.bool false)).setCell ⟨b, 5, none⟩ (.int .i64 0)) :=
    ((Only.cellAt wr b 2 _).trans (Only.cellAt _ b 3 _) (Within.refl _ _)).trans (Only.cellAt _ b 5 _) (Within.refl _ _)
  have ho4 := (ho.mono (G := [b, bn, bs]) (by simp)).trans ho3 (by intro k hk; left; simp at hk; simp [hk])
  rw [List.take_length] at hn
  refine ⟨[b, bn, bs], rfl, ⟨bn, bs, .slice none 0 0, ⟨crash_wf hd.wf keep, ?_, ?_, ?_, World.ownsRow_nil _ _ _ _, hd.n1, hd.n2, hd.n3, fun k hk => by simp [Value.ownBlock] at hk⟩, rfl⟩, ho4.mono ?_, ?_⟩
  · rw [heap_setCell_self (heap_setCell_self (heap_setCell_self hb))]
    simp [DevS.crash, devCells, backAll_length]
  · exact ho3.keeps hn (by simpa using hd.n1.symm)
  · exact ho3.keeps hs (by simpa using hd.n2.symm)
  · intro k hk; simp only [List.mem_cons, List.not_mem_nil, or_false] at hk ⊢; rcases hk with q | q | q <;> simp [q]
  · intro k hk; left; simp only [List.mem_cons, List.not_mem_nil, or_false] at hk ⊢; rcases hk with q | q | q <;> simp [q]

set_option maxRecDepth 100000 in
set_option maxHeartbeats 1000000 in
theorem crash_walk (b bn bs : Nat) (hv : Value) (d : DevS) (kb ko kq : Nat) (keep : List Int) (w : World) (hd : DevAt w b bn bs hv d) (hn : 0 < d.held.length) (hk : d.held.length ≤ 1000000)
    (hkb : kb < w.heap.size) (hkn : kb ∉ b :: bn :: bs :: hv.ownBlock.toList) (hkc : ∀ j x, keep[j]? = some x → w.cell? ⟨kb, ko + j, none⟩ = some (.int .i64 x)) :
    Calls Try.prog 15 #[.pointer (some ⟨b, 0, none⟩), .slice (some ⟨kb, ko, none⟩) keep.length kq] w (DevDid b (b :: bn :: bs :: hv.ownBlock.toList) w (.tuple #[]) (d.crash keep)) := by
  obtain ⟨p, q, rfl⟩ := ownsRow_slice hd.held
  obtain ⟨g, rfl, hg, hcell⟩ := ownsRow_cellAt hd.held hn
  have h2 : w.cell? ⟨b, 2, none⟩ = some (.slice (some ⟨g, 0, none⟩) d.held.length q) := cell_of_block hd.self 2 rfl
  have HD := Lib.hid hd; clear hd
  have HC := Lib.hid hcell; clear hcell
  have HKN := Lib.hid hkn; clear hkn
  have HKC := Lib.hid hkc; clear hkc
  have hfew := HD.out.wf.few
  go_enter Try.func15, Try.ntmps15
  go_wp2_with fail
  go_loopw [16] (fun i wr => ∃ k : Nat, k ≤ d.held.length ∧ i = .int .i64 k ∧ TornAt bs d keep w k wr) (fun i _ => d.held.length - (intOf i).toNat)
  case atStart => exact ⟨0, Nat.zero_le _, rfl, Only.refl _ _, by simpa using HD.out.safe⟩
  case round =>
    obtain ⟨k, hk1, rfl, ho, hs⟩ := hrel
    by_cases hlt : k < d.held.length
    · have hb1 : wr.heap[b]? = some (.cells (devCells bn bs d.now.length (.slice (some ⟨g, 0, none⟩) d.held.length q) d.armed d.left d.refused d.ops) 64 (0, 0)) := ho.keeps HD.out.self (by simpa using HD.out.n2)
      have hgs : g ∉ [bs] := by simpa using (HD.out.n4 g rfl).2.2
      have hx := heldCells_at d.held k hlt
      have c0 : wr.cell? ⟨g, k * 2, none⟩ = some (.int .i64 (d.held[k].1 : Int)) := by rw [ho.cell hg hgs]; exact HC.out _ _ hx.1
      have c1 : wr.cell? ⟨g, k * 2 + 1, none⟩ = some (.string d.held[k].2) := by rw [ho.cell hg hgs]; exact HC.out _ _ hx.2
      have hwf := (HD.out.wf.held d.held[k] (List.getElem_mem hlt)).1
      have hws := (HD.out.wf.held d.held[k] (List.getElem_mem hlt)).2
      have HWS := Lib.hid hws; clear hws
      by_cases hlk : k < keep.length
      · have hkk : wr.cell? ⟨kb, ko + k, none⟩ = some (.int .i64 keep[k]) := by rw [ho.cell hkb (fun e => HKN.out (by simp at e; simp [e]))]; exact HKC.out _ _ (List.getElem?_eq_getElem hlk)
        have hoW : Only [bs] w (wr.alloc (.cells #[.int .i64 (d.held[k].1 : Int), .string d.held[k].2] 67)) := ho.trans (Only.alloc [bs] wr _) (Within.refl _ _)
        have hsW : (wr.alloc (.cells #[.int .i64 (d.held[k].1 : Int), .string d.held[k].2] 67)).heap[bs]? = some (.cells (((((d.held.zip keep).take k).foldl DevS.tear d.safe).map Value.string).toArray) 9 (0, 0)) := by rw [heap_alloc_lt (lt_of_block hs)]; exact hs
        have hnW : (wr.alloc (.cells #[.int .i64 (d.held[k].1 : Int), .string d.held[k].2] 67)).heap[wr.heap.size]? = some (.cells #[.int .i64 (d.held[k].1 : Int), .string d.held[k].2] 67 (0, 0)) := heap_alloc_self
        have hbW : (wr.alloc (.cells #[.int .i64 (d.held[k].1 : Int), .string d.held[k].2] 67)).heap[b]? = some (.cells (devCells bn bs d.now.length (.slice (some ⟨g, 0, none⟩) d.held.length q) d.armed d.left d.refused d.ops) 64 (0, 0)) := by rw [heap_alloc_lt (lt_of_block hb1)]; exact hb1
        have hkW : (wr.alloc (.cells #[.int .i64 (d.held[k].1 : Int), .string d.held[k].2] 67)).cell? ⟨kb, ko + k, none⟩ = some (.int .i64 keep[k]) := by rw [(Only.alloc [] wr _).cell (Nat.lt_of_lt_of_le hkb ho.size) (by simp)]; exact hkk
        have HS := Lib.hid hs; clear hs
        have HB1 := Lib.hid hb1; clear hb1
        have HSW := Lib.hid hsW; clear hsW
        have HNW := Lib.hid hnW; clear hnW
        have HBW := Lib.hid hbW; clear hbW
        have HOW := Lib.hid hoW; clear hoW
        have HO := Lib.hid ho; clear ho
        clear hx h2
        have hkd := kept_le keep[k]
        go_wp2_with (go_at_call 38; refine (kept_any _ _).mono ?_; rintro e w' ⟨rfl, rfl⟩)
        generalize (wr.alloc (.cells #[.int .i64 (d.held[k].1 : Int), .string d.held[k].2] 67)) = W at *
        have g1 : W.cell? ⟨b, 1, none⟩ = some (.slice (some ⟨bs, 0, none⟩) d.now.length d.now.length) := cell_of_block HBW.out 1 rfl
        have g2 : W.cell? ⟨wr.heap.size, 0, none⟩ = some (.int .i64 (d.held[k].1 : Int)) := cell_of_block HNW.out 0 rfl
        have g3 : W.cell? ⟨wr.heap.size, 1, none⟩ = some (.string d.held[k].2) := cell_of_block HNW.out 1 rfl
        have gf := free_of_block HSW.out d.held[k].1
        have gu := tear_cell (L := ((d.held.zip keep).take k).foldl DevS.tear d.safe) HSW.out (i := d.held[k].1) (by rw [tearAll_length, HD.out.wf.same]; exact hwf)
        have hts := tear_size ((d.held.zip keep).take k) d.safe HD.out.wf.safe (fun x hx => (HD.out.wf.held x.1 (List.of_mem_zip (List.mem_of_mem_take hx)).1).2) (i := d.held[k].1) (by rw [HD.out.wf.same]; exact hwf)
        have HR : Hid (TornAt bs d keep w (k + 1) (W.drew.setCell ⟨bs, d.held[k].1, none⟩ (.string (DevS.torn d.held[k].2 ((((d.held.zip keep).take k).foldl DevS.tear d.safe).getD d.held[k].1 ByteArray.empty) (DevS.kept keep[k]))))) := torn_next hlt hlk HOW.out HSW.out
        generalize ((((d.held.zip keep).take k).foldl DevS.tear d.safe).getD d.held[k].1 ByteArray.empty) = t at *
        have s1 : DevS.kept keep[k] ≤ t.size := by rw [hts]; exact hkd
        have s2 : DevS.kept keep[k] ≤ d.held[k].2.size := by rw [HWS.out]; exact hkd
        have s3 : t.size ≤ 512 := by rw [hts]; exact Nat.le_refl _
        clear hts hkk hkW
        go_region
        all_goals
          go_wp2_with fail
          go_roundw
          case rel => exact ⟨k + 1, by omega, by go_num, by rw [torn_eq]; exact HR.out⟩
          case measure => simp [intOf]; omega
      · have HR : Hid (TornAt bs d keep w (k + 1) (wr.alloc (.cells #[.int .i64 (d.held[k].1 : Int), .string d.held[k].2] 67))) := by
          refine ⟨ho.trans (Only.alloc [bs] wr _) (Within.refl _ _), ?_⟩
          rw [heap_alloc_lt (lt_of_block hs), hs, List.take_of_length_le (by simp; omega), List.take_of_length_le (by simp; omega)]
        have HS := Lib.hid hs; clear hs
        have HB1 := Lib.hid hb1; clear hb1
        have HO := Lib.hid ho; clear ho
        clear hx h2
        go_wp2_with fail
        go_roundw
        case rel => exact ⟨k + 1, by omega, by go_num, HR.out⟩
        case measure => simp [intOf]; omega
    · obtain rfl : k = d.held.length := by omega
      have hb1 : wr.heap[b]? = some (.cells (devCells bn bs d.now.length (.slice (some ⟨g, 0, none⟩) d.held.length q) d.armed d.left d.refused d.ops) 64 (0, 0)) := ho.keeps HD.out.self (by simpa using HD.out.n2)
      have h2r : wr.cell? ⟨b, 2, none⟩ = some (.slice (some ⟨g, 0, none⟩) d.held.length q) := cell_of_block hb1 2 rfl
      have HT : Hid (TornAll bs d keep w wr) := by
        refine ⟨ho, ?_⟩
        rw [hs, List.take_of_length_le (by simp; omega)]
        rfl
      clear hs ho hb1 h2
      go_wp2_with fail
      clear h2r
      obtain ⟨wo, hwo⟩ : ∃ wo : World, wo = wr := ⟨_, rfl⟩
      rw [← hwo]
      rw [← hwo] at HT
      clear hwo
      go_loopw [58] (fun i wr => ∃ k : Nat, k ≤ d.held.length ∧ i = .int .i64 k ∧ BackAt bn bs d keep w k wr) (fun i _ => d.held.length - (intOf i).toNat)
      case atStart => exact ⟨0, Nat.zero_le _, rfl, back_start HD.out HT.out⟩
      case round =>
        obtain ⟨k, hk1, rfl, ho, hs, hn⟩ := hrel
        have hb1 : wr.heap[b]? = some (.cells (devCells bn bs d.now.length (.slice (some ⟨g, 0, none⟩) d.held.length q) d.armed d.left d.refused d.ops) 64 (0, 0)) := ho.keeps HD.out.self (by simp; exact ⟨HD.out.n1, HD.out.n2⟩)
        by_cases hlt : k < d.held.length
        · have hgs : g ∉ [bn, bs] := by simp; exact (HD.out.n4 g rfl).2
          have hx := heldCells_at d.held k hlt
          have c0 : wr.cell? ⟨g, k * 2, none⟩ = some (.int .i64 (d.held[k].1 : Int)) := by rw [ho.cell hg hgs]; exact HC.out _ _ hx.1
          have c1 : wr.cell? ⟨g, k * 2 + 1, none⟩ = some (.string d.held[k].2) := by rw [ho.cell hg hgs]; exact HC.out _ _ hx.2
          have hwf := (HD.out.wf.held d.held[k] (List.getElem_mem hlt)).1
          have hoW : Only [bn, bs] w (wr.alloc (.cells #[.int .i64 (d.held[k].1 : Int), .string d.held[k].2] 67)) := ho.trans (Only.alloc [bn, bs] wr _) (Within.refl _ _)
          have hsW := (heap_alloc_lt (o := .cells #[.int .i64 (d.held[k].1 : Int), .string d.held[k].2] 67) (lt_of_block hs)).trans hs
          have hnW0 := (heap_alloc_lt (o := .cells #[.int .i64 (d.held[k].1 : Int), .string d.held[k].2] 67) (lt_of_block hn)).trans hn
          have hnW : (wr.alloc (.cells #[.int .i64 (d.held[k].1 : Int), .string d.held[k].2] 67)).heap[wr.heap.size]? = some (.cells #[.int .i64 (d.held[k].1 : Int), .string d.held[k].2] 67 (0, 0)) := heap_alloc_self
          have hbW := (heap_alloc_lt (o := .cells #[.int .i64 (d.held[k].1 : Int), .string d.held[k].2] 67) (lt_of_block hb1)).trans hb1
          have HSW := Lib.hid hsW; clear hsW
          have HNW0 := Lib.hid hnW0; clear hnW0
          have HNW := Lib.hid hnW; clear hnW
          have HBW := Lib.hid hbW; clear hbW
          have HOW := Lib.hid hoW; clear hoW
          clear hs hn hb1 ho hx
          go_wp2_with fail
          generalize (wr.alloc (.cells #[.int .i64 (d.held[k].1 : Int), .string d.held[k].2] 67)) = W at *
          have g0 : W.cell? ⟨b, 0, none⟩ = some (.slice (some ⟨bn, 0, none⟩) d.now.length d.now.length) := cell_of_block HBW.out 0 rfl
          have g1 : W.cell? ⟨b, 1, none⟩ = some (.slice (some ⟨bs, 0, none⟩) d.now.length d.now.length) := cell_of_block HBW.out 1 rfl
          have g2 : W.cell? ⟨wr.heap.size, 0, none⟩ = some (.int .i64 (d.held[k].1 : Int)) := cell_of_block HNW.out 0 rfl
          have g3 : W.cell? ⟨wr.heap.size, 1, none⟩ = some (.string d.held[k].2) := cell_of_block HNW.out 1 rfl
          have gf := free_of_block HNW0.out d.held[k].1
          have gs := tear_cell (L := d.crashed keep) HSW.out (i := d.held[k].1) (by rw [DevS.crashed, tearAll_length, HD.out.wf.same]; exact hwf)
          have gn := tear_cell (L := (d.held.take k).foldl (DevS.back (d.crashed keep)) d.now) HNW0.out (i := d.held[k].1) (by rw [backAll_length]; exact hwf)
          have HR : Hid (BackAt bn bs d keep w (k + 1) (W.drew.setCell ⟨bn, d.held[k].1, none⟩ (.string ((d.crashed keep).getD d.held[k].1 ByteArray.empty)))) := back_next hlt HD.out.n3 HOW.out HSW.out HNW0.out
          generalize ((d.crashed keep).getD d.held[k].1 ByteArray.empty) = t at *
          clear c0 c1
          go_region
          all_goals
            go_wp2_with fail
            go_roundw
            case rel => exact ⟨k + 1, by omega, by go_num, HR.out⟩
            case measure => simp [intOf]; omega
        · obtain rfl : k = d.held.length := by omega
          have h2r : wr.cell? ⟨b, 2, none⟩ = some (.slice (some ⟨g, 0, none⟩) d.held.length q) := cell_of_block hb1 2 rfl
          have h3r : wr.cell? ⟨b, 3, none⟩ = some (.bool d.armed) := cell_of_block hb1 3 rfl
          have h5r : wr.cell? ⟨b, 5, none⟩ = some (.int .i64 d.refused) := cell_of_block hb1 5 rfl
          have f2 := free_of_block hb1 2
          have f3 := free_of_block hb1 3
          have f5 := free_of_block hb1 5
          have HB1 := Lib.hid hb1; clear hb1
          have HB : Hid (BackAt bn bs d keep w d.held.length wr) := ⟨ho, hs, hn⟩
          clear ho hs hn
          go_wp2_with fail
          go_end0
          exact crash_done HD.out HB.out HB1.out
set_option maxRecDepth 100000 in
set_option maxHeartbeats 1000000 in
theorem crash_walk_nil (b bn bs : Nat) (hv : Value) (d : DevS) (kq : Nat) (w : World) (hd : DevAt w b bn bs hv d) (hn : 0 < d.held.length) (hk : d.held.length ≤ 1000000) :
    Calls Try.prog 15 #[.pointer (some ⟨b, 0, none⟩), .slice none 0 kq] w (DevDid b (b :: bn :: bs :: hv.ownBlock.toList) w (.tuple #[]) (d.crash [])) := by
  obtain ⟨p, q, rfl⟩ := ownsRow_slice hd.held
  obtain ⟨g, rfl, hg, hcell⟩ := ownsRow_cellAt hd.held hn
  have h2 : w.cell? ⟨b, 2, none⟩ = some (.slice (some ⟨g, 0, none⟩) d.held.length q) := cell_of_block hd.self 2 rfl
  have HD := Lib.hid hd; clear hd
  have HC := Lib.hid hcell; clear hcell
  have hfew := HD.out.wf.few
  go_enter Try.func15, Try.ntmps15
  go_wp2_with fail
  go_loopw [16] (fun i wr => ∃ k : Nat, k ≤ d.held.length ∧ i = .int .i64 k ∧ TornAt bs d [] w k wr) (fun i _ => d.held.length - (intOf i).toNat)
  case atStart => exact ⟨0, Nat.zero_le _, rfl, Only.refl _ _, by simpa using HD.out.safe⟩
  case round =>
    obtain ⟨k, hk1, rfl, ho, hs⟩ := hrel
    by_cases hlt : k < d.held.length
    · have hb1 : wr.heap[b]? = some (.cells (devCells bn bs d.now.length (.slice (some ⟨g, 0, none⟩) d.held.length q) d.armed d.left d.refused d.ops) 64 (0, 0)) := ho.keeps HD.out.self (by simpa using HD.out.n2)
      have hgs : g ∉ [bs] := by simpa using (HD.out.n4 g rfl).2.2
      have hx := heldCells_at d.held k hlt
      have c0 : wr.cell? ⟨g, k * 2, none⟩ = some (.int .i64 (d.held[k].1 : Int)) := by rw [ho.cell hg hgs]; exact HC.out _ _ hx.1
      have c1 : wr.cell? ⟨g, k * 2 + 1, none⟩ = some (.string d.held[k].2) := by rw [ho.cell hg hgs]; exact HC.out _ _ hx.2
      have hwf := (HD.out.wf.held d.held[k] (List.getElem_mem hlt)).1
      have hws := (HD.out.wf.held d.held[k] (List.getElem_mem hlt)).2
      have HWS := Lib.hid hws; clear hws
      have HR : Hid (TornAt bs d [] w (k + 1) (wr.alloc (.cells #[.int .i64 (d.held[k].1 : Int), .string d.held[k].2] 67))) := by
        refine ⟨ho.trans (Only.alloc [bs] wr _) (Within.refl _ _), ?_⟩
        rw [heap_alloc_lt (lt_of_block hs), hs, List.take_of_length_le (by simp), List.take_of_length_le (by simp)]
      have HS := Lib.hid hs; clear hs
      have HB1 := Lib.hid hb1; clear hb1
      have HO := Lib.hid ho; clear ho
      clear hx h2
      go_wp2_with fail
      go_roundw
      case rel => exact ⟨k + 1, by omega, by go_num, HR.out⟩
      case measure => simp [intOf]; omega
    · obtain rfl : k = d.held.length := by omega
      have hb1 : wr.heap[b]? = some (.cells (devCells bn bs d.now.length (.slice (some ⟨g, 0, none⟩) d.held.length q) d.armed d.left d.refused d.ops) 64 (0, 0)) := ho.keeps HD.out.self (by simpa using HD.out.n2)
      have h2r : wr.cell? ⟨b, 2, none⟩ = some (.slice (some ⟨g, 0, none⟩) d.held.length q) := cell_of_block hb1 2 rfl
      have HT : Hid (TornAll bs d [] w wr) := by
        refine ⟨ho, ?_⟩
        rw [hs, List.take_of_length_le (by simp)]
        rfl
      clear hs ho hb1 h2
      go_wp2_with fail
      clear h2r
      obtain ⟨wo, hwo⟩ : ∃ wo : World, wo = wr := ⟨_, rfl⟩
      rw [← hwo]
      rw [← hwo] at HT
      clear hwo
      go_loopw [58] (fun i wr => ∃ k : Nat, k ≤ d.held.length ∧ i = .int .i64 k ∧ BackAt bn bs d [] w k wr) (fun i _ => d.held.length - (intOf i).toNat)
      case atStart => exact ⟨0, Nat.zero_le _, rfl, back_start HD.out HT.out⟩
      case round =>
        obtain ⟨k, hk1, rfl, ho, hs, hn⟩ := hrel
        have hb1 : wr.heap[b]? = some (.cells (devCells bn bs d.now.length (.slice (some ⟨g, 0, none⟩) d.held.length q) d.armed d.left d.refused d.ops) 64 (0, 0)) := ho.keeps HD.out.self (by simp; exact ⟨HD.out.n1, HD.out.n2⟩)
        by_cases hlt : k < d.held.length
        · have hgs : g ∉ [bn, bs] := by simp; exact (HD.out.n4 g rfl).2
          have hx := heldCells_at d.held k hlt
          have c0 : wr.cell? ⟨g, k * 2, none⟩ = some (.int .i64 (d.held[k].1 : Int)) := by rw [ho.cell hg hgs]; exact HC.out _ _ hx.1
          have c1 : wr.cell? ⟨g, k * 2 + 1, none⟩ = some (.string d.held[k].2) := by rw [ho.cell hg hgs]; exact HC.out _ _ hx.2
          have hwf := (HD.out.wf.held d.held[k] (List.getElem_mem hlt)).1
          have hoW : Only [bn, bs] w (wr.alloc (.cells #[.int .i64 (d.held[k].1 : Int), .string d.held[k].2] 67)) := ho.trans (Only.alloc [bn, bs] wr _) (Within.refl _ _)
          have hsW := (heap_alloc_lt (o := .cells #[.int .i64 (d.held[k].1 : Int), .string d.held[k].2] 67) (lt_of_block hs)).trans hs
          have hnW0 := (heap_alloc_lt (o := .cells #[.int .i64 (d.held[k].1 : Int), .string d.held[k].2] 67) (lt_of_block hn)).trans hn
          have hnW : (wr.alloc (.cells #[.int .i64 (d.held[k].1 : Int), .string d.held[k].2] 67)).heap[wr.heap.size]? = some (.cells #[.int .i64 (d.held[k].1 : Int), .string d.held[k].2] 67 (0, 0)) := heap_alloc_self
          have hbW := (heap_alloc_lt (o := .cells #[.int .i64 (d.held[k].1 : Int), .string d.held[k].2] 67) (lt_of_block hb1)).trans hb1
          have HSW := Lib.hid hsW; clear hsW
          have HNW0 := Lib.hid hnW0; clear hnW0
          have HNW := Lib.hid hnW; clear hnW
          have HBW := Lib.hid hbW; clear hbW
          have HOW := Lib.hid hoW; clear hoW
          clear hs hn hb1 ho hx
          go_wp2_with fail
          generalize (wr.alloc (.cells #[.int .i64 (d.held[k].1 : Int), .string d.held[k].2] 67)) = W at *
          have g0 : W.cell? ⟨b, 0, none⟩ = some (.slice (some ⟨bn, 0, none⟩) d.now.length d.now.length) := cell_of_block HBW.out 0 rfl
          have g1 : W.cell? ⟨b, 1, none⟩ = some (.slice (some ⟨bs, 0, none⟩) d.now.length d.now.length) := cell_of_block HBW.out 1 rfl
          have g2 : W.cell? ⟨wr.heap.size, 0, none⟩ = some (.int .i64 (d.held[k].1 : Int)) := cell_of_block HNW.out 0 rfl
          have g3 : W.cell? ⟨wr.heap.size, 1, none⟩ = some (.string d.held[k].2) := cell_of_block HNW.out 1 rfl
          have gf := free_of_block HNW0.out d.held[k].1
          have gs := tear_cell (L := d.crashed []) HSW.out (i := d.held[k].1) (by rw [DevS.crashed, tearAll_length, HD.out.wf.same]; exact hwf)
          have gn := tear_cell (L := (d.held.take k).foldl (DevS.back (d.crashed [])) d.now) HNW0.out (i := d.held[k].1) (by rw [backAll_length]; exact hwf)
          have HR : Hid (BackAt bn bs d [] w (k + 1) (W.drew.setCell ⟨bn, d.held[k].1, none⟩ (.string ((d.crashed []).getD d.held[k].1 ByteArray.empty)))) := back_next hlt HD.out.n3 HOW.out HSW.out HNW0.out
          generalize ((d.crashed []).getD d.held[k].1 ByteArray.empty) = t at *
          clear c0 c1
          go_region
          all_goals
            go_wp2_with fail
            go_roundw
            case rel => exact ⟨k + 1, by omega, by go_num, HR.out⟩
            case measure => simp [intOf]; omega
        · obtain rfl : k = d.held.length := by omega
          have h2r : wr.cell? ⟨b, 2, none⟩ = some (.slice (some ⟨g, 0, none⟩) d.held.length q) := cell_of_block hb1 2 rfl
          have h3r : wr.cell? ⟨b, 3, none⟩ = some (.bool d.armed) := cell_of_block hb1 3 rfl
          have h5r : wr.cell? ⟨b, 5, none⟩ = some (.int .i64 d.refused) := cell_of_block hb1 5 rfl
          have f2 := free_of_block hb1 2
          have f3 := free_of_block hb1 3
          have f5 := free_of_block hb1 5
          have HB1 := Lib.hid hb1; clear hb1
          have HB : Hid (BackAt bn bs d [] w d.held.length wr) := ⟨ho, hs, hn⟩
          clear ho hs hn
          go_wp2_with fail
          go_end0
          exact crash_done HD.out HB.out HB1.out
set_option maxRecDepth 100000 in
set_option maxHeartbeats 1000000 in
/-- Where nothing is held back: the loops have no round. -/
theorem crash_none (b bn bs : Nat) (hv kv : Value) (d : DevS) (keep : List Int) (w : World) (hd : DevAt w b bn bs hv d) (hn : d.held.length = 0) :
    Calls Try.prog 15 #[.pointer (some ⟨b, 0, none⟩), kv] w (DevDid b (b :: bn :: bs :: hv.ownBlock.toList) w (.tuple #[]) (d.crash keep)) := by
  obtain ⟨p, q, rfl⟩ := ownsRow_slice hd.held
  have h2 : w.cell? ⟨b, 2, none⟩ = some (.slice p 0 q) := by rw [← hn]; exact cell_of_block hd.self 2 rfl
  have h3 : w.cell? ⟨b, 3, none⟩ = some (.bool d.armed) := cell_of_block hd.self 3 rfl
  have h5 : w.cell? ⟨b, 5, none⟩ = some (.int .i64 d.refused) := cell_of_block hd.self 5 rfl
  have f2 := free_of_block hd.self 2
  have f3 := free_of_block hd.self 3
  have f5 := free_of_block hd.self 5
  have HD := Lib.hid hd; clear hd
  have HN := Lib.hid hn; clear hn
  go_enter Try.func15, Try.ntmps15
  go_wp2_with fail
  refine wp_loop_rounds 1 ?_
  rw [rounds_succ]
  go_wp2_with fail
  refine wp_loop_rounds 1 ?_
  rw [rounds_succ]
  go_wp2_with fail
  go_end0
  refine crash_done HD.out ⟨Only.refl _ _, ?_, ?_⟩ HD.out.self
  · have := HD.out.safe
    rw [DevS.crashed, List.length_eq_zero_iff.1 HN.out]; exact this
  · have := HD.out.now
    rw [List.length_eq_zero_iff.1 HN.out]; exact this

/-- 'Crash', at any device. -/
theorem dev_crash (b : Nat) (F : List Nat) (d : DevS) (kv : Value) (keep : List Int) (w : World) (h : IsDev w b F d) (hk : d.held.length ≤ 1000000) (hi : IntsIn w F kv keep) (_hkl : keep.length ≤ 1000000000) :
    Calls Try.prog 15 #[.pointer (some ⟨b, 0, none⟩), kv] w (DevDid b F w (.tuple #[]) (d.crash keep)) := by
  obtain ⟨bn, bs, hv, hd, rfl⟩ := h
  by_cases hn : d.held.length = 0
  · exact crash_none b bn bs hv kv d keep w hd hn
  · rcases hi with ⟨kq, rfl, rfl⟩ | ⟨kb, ko, kq, rfl, hkn, hkb, hkc⟩
    · exact crash_walk_nil b bn bs hv d kq w hd (by omega) hk
    · exact crash_walk b bn bs hv d kb ko kq keep w hd (by omega) hk hkb hkn hkc

end Go.Proofs.Ytaipjialomjhhaa
