/-
  What is proved here: the document's Release.
  No condition: each lemma names its own.
-/
import Derived.Test.YtipfjjcokajjjaaDoorRfI
set_option linter.unusedVariables false
set_option linter.unusedSimpArgs false
namespace Go.Proofs.YtipfjjcokajjjaaDoor
open Go.RowKit

def relHas (t : Tab) (h : Int) (i : Nat) : List Int := (t.take i).flatMap (fun x => (relT x h).1)
def relStay (t : Tab) (h : Int) (i : Nat) : Tab := ((t.take i).map (fun x => (relT x h).2)).filter fullT
theorem relHas_next {t : Tab} {h : Int} {i : Nat} {x : Th} (hx : t[i]? = some x) : relHas t h (i + 1) = relHas t h i ++ (relT x h).1 := by
  unfold relHas
  rw [List.take_add_one, hx, List.flatMap_append]
  simp
theorem relStay_next {t : Tab} {h : Int} {i : Nat} {x : Th} (hx : t[i]? = some x) : relStay t h (i + 1) = relStay t h i ++ (if fullT (relT x h).2 then [(relT x h).2] else []) := by
  unfold relStay
  rw [List.take_add_one, hx, List.map_append, List.filter_append]
  congr 1
  simp only [Option.toList, List.map_cons, List.map_nil, List.filter_cons, List.filter_nil]
theorem grant_len (has q : HM) : (grant has q).1.length ≤ q.length := by
  obtain ⟨p, h1, h2⟩ := grant_suffix q has
  rw [h2, List.length_map]
  conv => rhs; rw [h1]
  rw [List.length_append]; omega
theorem relT_len {x : Th} (hx : GoodT x) (h : Int) : (relT x h).1.length ≤ 1001 := by
  rw [relT_eq hx h]
  refine Nat.le_trans (grant_len _ _) (Nat.le_trans (List.length_filter_le _ _) (modes_len1 hx.q))
theorem relHas_len {t : Tab} (hg : Good t) (h : Int) : ∀ i, i ≤ t.length → (relHas t h i).length ≤ 1001 * i := by
  intro i
  induction i with
  | zero => intro _; simp [relHas]
  | succ i ih =>
    intro hi
    obtain ⟨x, hx⟩ : ∃ x, t[i]? = some x := ⟨_, List.getElem?_eq_getElem (by omega)⟩
    rw [relHas_next hx, List.length_append]
    have h1 := ih (by omega)
    have h2 := relT_len (hg.each x (List.mem_of_getElem? hx)) h
    omega

/-- The parts of memory while Release goes from thing to thing. -/
def relParts (b : Nat) (p : Option Addr) (N q : Nat) (tv : RTP) (v5 v6 : Value) (ou : List Int) (tv' : RTP) (vs : List (Value × HM)) (L : List Res) : List Res :=
  rowRes 3 1 v5 ou.length (intCells ou) :: rowRes 71 3 v6 tv'.length (tCells tv') :: heldsRes vs :: blkRes b (.cells #[.slice p N q] 28 (0, 0)) :: rowRes 71 3 (.slice p N q) N (tCells tv) :: L

theorem rel_cells {w W : World} {b : Nat} {p : Option Addr} {N q : Nat} {tv : RTP} {v5 v6 : Value} {ou : List Int} {tv' : RTP} {vs : List (Value × HM)} {L : List Res} (hs : Sep w W (relParts b p N q tv v5 v6 ou tv' vs L)) {k : Nat} {x : Th} {vh vq : Value} (hk : tv[k]? = some (x, vh, vq)) :
    ∃ g, p = some ⟨g, 0, none⟩ ∧ W.cell? ⟨g, k * 3, none⟩ = some (.string x.name) ∧ W.cell? ⟨g, k * 3 + 1, none⟩ = some vh ∧ W.cell? ⟨g, k * 3 + 2, none⟩ = some vq := by
  obtain ⟨h1, h2, h3⟩ := tCells_at hk
  have hr := (hs.tail.tail.tail.up1).row
  obtain ⟨g, rfl, a1, b1⟩ := ownsRow_cell_of hr h1
  obtain ⟨g', e2, a2, b2⟩ := ownsRow_cell_of hr h2
  obtain ⟨g3, e3, a3, b3⟩ := ownsRow_cell_of hr h3
  cases e2
  cases e3
  exact ⟨g, rfl, a1, a2, a3⟩
theorem rel_tab {w W : World} {b : Nat} {p : Option Addr} {N q : Nat} {tv : RTP} {v5 v6 : Value} {ou : List Int} {tv' : RTP} {vs : List (Value × HM)} {L : List Res} (hs : Sep w W (relParts b p N q tv v5 v6 ou tv' vs L)) : W.cell? ⟨b, 0, none⟩ = some (.slice p N q) ∧ W.frozen? ⟨b, 0, none⟩ = false :=
  ⟨cell_of_block hs.tail.tail.tail.blk 0 rfl, free_of_block hs.tail.tail.tail.blk 0⟩

/-- A thing in a block of its own, beside the others. -/
def xParts (X b : Nat) (nm : ByteArray) (a c : Value) (p : Option Addr) (N q : Nat) (tv : RTP) (v5 v6 : Value) (ou : List Int) (tv' : RTP) (vs : List (Value × HM)) (L : List Res) : List Res :=
  blkRes X (.cells #[.string nm, a, c] 71 (0, 0)) :: relParts b p N q tv v5 v6 ou tv' vs L

section
variable {w W : World} {X b : Nat} {nm : ByteArray} {a c : Value} {p : Option Addr} {N q : Nat} {tv : RTP} {v5 v6 : Value} {ou : List Int} {tv' : RTP} {vs : List (Value × HM)} {L : List Res}
theorem rel_x (hs : Sep w W (xParts X b nm a c p N q tv v5 v6 ou tv' vs L)) : (W.cell? ⟨X, 0, none⟩ = some (.string nm) ∧ W.cell? ⟨X, 1, none⟩ = some a ∧ W.cell? ⟨X, 2, none⟩ = some c) ∧ W.frozen? ⟨X, 1, none⟩ = false ∧ W.frozen? ⟨X, 2, none⟩ = false :=
  ⟨⟨cell_of_block hs.blk 0 rfl, cell_of_block hs.blk 1 rfl, cell_of_block hs.blk 2 rfl⟩, free_of_block hs.blk 1, free_of_block hs.blk 2⟩
/-- The parts with the slices of holders in front. -/
theorem rel_vs (hs : Sep w W (xParts X b nm a c p N q tv v5 v6 ou tv' vs L)) : Sep w W (heldsRes vs :: blkRes X (.cells #[.string nm, a, c] 71 (0, 0)) :: rowRes 3 1 v5 ou.length (intCells ou) :: rowRes 71 3 v6 tv'.length (tCells tv') :: blkRes b (.cells #[.slice p N q] 28 (0, 0)) :: rowRes 71 3 (.slice p N q) N (tCells tv) :: L) := hs.up3
theorem rel_vs' (hs : Sep w W (heldsRes vs :: blkRes X (.cells #[.string nm, a, c] 71 (0, 0)) :: rowRes 3 1 v5 ou.length (intCells ou) :: rowRes 71 3 v6 tv'.length (tCells tv') :: blkRes b (.cells #[.slice p N q] 28 (0, 0)) :: rowRes 71 3 (.slice p N q) N (tCells tv) :: L)) : Sep w W (xParts X b nm a c p N q tv v5 v6 ou tv' vs L) := hs.dn3
theorem rel_set1 (hs : Sep w W (xParts X b nm a c p N q tv v5 v6 ou tv' vs L)) (v : Value) : Sep w (W.setCell ⟨X, 1, none⟩ v) (xParts X b nm v c p N q tv v5 v6 ou tv' vs L) := by
  have h := Sep.store hs 1 v
  simp only [List.setIfInBounds_toArray, List.set_cons_succ, List.set_cons_zero] at h
  exact h
theorem rel_set2 (hs : Sep w W (xParts X b nm a c p N q tv v5 v6 ou tv' vs L)) (v : Value) : Sep w (W.setCell ⟨X, 2, none⟩ v) (xParts X b nm a v p N q tv v5 v6 ou tv' vs L) := by
  have h := Sep.store hs 2 v
  simp only [List.setIfInBounds_toArray, List.set_cons_succ, List.set_cons_zero] at h
  exact h
/-- A row that the program made joins the slices of holders. -/
theorem rel_join {v : Value} {n : Nat} {l : HM} (hs : Sep w W (rowRes 76 2 v n (wCells l) :: xParts X b nm a c p N q tv v5 v6 ou tv' vs L)) (hn : n = l.length) : Sep w W (xParts X b nm a c p N q tv v5 v6 ou tv' ((v, l) :: vs) L) := by
  have h1 : Sep w W (rowRes 76 2 v n (wCells l) :: heldsRes vs :: blkRes X (.cells #[.string nm, a, c] 71 (0, 0)) :: rowRes 3 1 v5 ou.length (intCells ou) :: rowRes 71 3 v6 tv'.length (tCells tv') :: blkRes b (.cells #[.slice p N q] 28 (0, 0)) :: rowRes 71 3 (.slice p N q) N (tCells tv) :: L) :=
    hs.reorder (by unfold xParts relParts; intro x; simp only [List.count_cons]; omega)
  exact rel_vs' (h1.heldsJoin hn)
/-- without of a slice among them. -/
theorem rel_wo {v : Value} {l : HM} (hs : Sep w W (xParts X b nm a c p N q tv v5 v6 ou tv' vs L)) (hm : (v, l) ∈ vs) (hl : l.length ≤ 1000000) (h : Int) :
    Calls Tryd.prog 34 #[v, .int .i64 h] W fun e W' => ∃ p3 q3, e = .returned (.slice p3 (outL l h).length q3) ∧ Sep w W' (xParts X b nm a c p N q tv v5 v6 ou tv' ((.slice p3 (outL l h).length q3, outL l h) :: vs) L) := by
  refine (rwithout_any (rel_vs hs) hm hl h).mono ?_
  rintro e W' ⟨p3, q3, rfl, h3⟩
  refine ⟨p3, q3, rfl, rel_join (h3.reorder (by unfold xParts relParts; intro x; simp only [List.count_cons]; omega)) rfl⟩
end

theorem mine_not {x : Th} (hx : GoodT x) {h : Int} (hm : mineB x h = false) : grant (outL x.has h) (outL x.q h) = ([], outL x.has h, outL x.q h) := by
  unfold mineB at hm
  rw [Bool.or_eq_false_iff, decide_eq_false_iff_not, decide_eq_false_iff_not] at hm
  have e1 : outL x.has h = x.has := out_self (fun y hy e => by have := (modeL_pos hx.has).2 ⟨y, hy, e⟩; omega)
  have e2 : outL x.q h = x.q := out_self (fun y hy e => by have := (modeL_pos hx.q).2 ⟨y, hy, e⟩; omega)
  rw [e1, e2]
  cases hq : x.q with
  | nil => rfl
  | cons y z => unfold grant; rw [hx.bar y z hq]; rfl
/-- While who waits gets the thing. -/
structure RelIn (x : Th) (h : Int) (i : Nat) (ou : List Int) (vs : List (Value × HM)) (pa : Option Addr) (na qa : Nat) (pc : Option Addr) (nc qc no1 : Nat) (ou1 : List Int) (a1 c1 : HM) (vs1 : List (Value × HM)) : Prop where
  ena : na = a1.length
  enc : nc = c1.length
  eno : no1 = ou1.length
  ma : (.slice pa na qa, a1) ∈ vs1
  mc : (.slice pc nc qc, c1) ∈ vs1
  sub : ∀ y ∈ vs, y ∈ vs1
  out : ou1 ++ (grant a1 c1).1 = ou ++ (relT x h).1
  fin : (grant a1 c1).2 = ((relT x h).2.has, (relT x h).2.q)
  la : na + nc ≤ 2002
  lo : no1 + nc ≤ 1001 * i + 1001
structure RelOut (x : Th) (h : Int) (i : Nat) (ou : List Int) (vs : List (Value × HM)) (pa : Option Addr) (na qa : Nat) (pc : Option Addr) (nc qc no1 : Nat) (ou1 : List Int) (vs1 : List (Value × HM)) : Prop where
  ena : na = (relT x h).2.has.length
  enc : nc = (relT x h).2.q.length
  eno : no1 = ou1.length
  ma : (.slice pa na qa, (relT x h).2.has) ∈ vs1
  mc : (.slice pc nc qc, (relT x h).2.q) ∈ vs1
  sub : ∀ y ∈ vs, y ∈ vs1
  out : ou1 = ou ++ (relT x h).1
  la : na + nc ≤ 2002
  lo : no1 ≤ 1001 * i + 1001
theorem RelIn.start {x : Th} {h : Int} {i : Nat} {ou : List Int} {vs vs1 : List (Value × HM)} (hx : GoodT x) (ho : ou.length ≤ 1001 * i) {pa pc : Option Addr} {qa qc no1 : Nat} (hno : no1 = ou.length)
    (ma : (.slice pa (outL x.has h).length qa, outL x.has h) ∈ vs1) (mc : (.slice pc (outL x.q h).length qc, outL x.q h) ∈ vs1) (sub : ∀ y ∈ vs, y ∈ vs1) : RelIn x h i ou vs pa (outL x.has h).length qa pc (outL x.q h).length qc no1 ou (outL x.has h) (outL x.q h) vs1 := by
  have h1 := modes_len1 hx.has
  have h2 := modes_len1 hx.q
  have h3 : (outL x.has h).length ≤ x.has.length := List.length_filter_le _ _
  have h4 : (outL x.q h).length ≤ x.q.length := List.length_filter_le _ _
  exact ⟨rfl, rfl, hno, ma, mc, sub, by rw [relT_eq hx h], by rw [relT_eq hx h], by omega, by omega⟩
theorem RelIn.stop {x : Th} {h : Int} {i : Nat} {ou : List Int} {vs vs1 : List (Value × HM)} {pa pc : Option Addr} {na qa nc qc no1 : Nat} {ou1 : List Int} {a1 c1 : HM} (hr : RelIn x h i ou vs pa na qa pc nc qc no1 ou1 a1 c1 vs1) (hg : grant a1 c1 = ([], a1, c1)) : RelOut x h i ou vs pa na qa pc nc qc no1 ou1 vs1 := by
  obtain ⟨h1, h2, h3, h4, h5, h6, h7, h8, h9, h10⟩ := hr
  rw [hg] at h7 h8
  simp only [Prod.mk.injEq] at h8
  obtain ⟨e1, e2⟩ := h8
  rw [e1] at h1 h4
  rw [e2] at h2 h5
  exact ⟨h1, h2, h3, h4, h5, h6, by rw [← h7, List.append_nil], h9, by omega⟩
theorem RelIn.step {x : Th} {h : Int} {i : Nat} {ou : List Int} {vs vs1 vs2 : List (Value × HM)} {pa pc pa2 pc2 : Option Addr} {na qa nc qc no1 qa2 qc2 : Nat} {ou1 : List Int} {a1 z : HM} {y1 y2 : Int} (hr : RelIn x h i ou vs pa na qa pc nc qc no1 ou1 a1 ((y1, y2) :: z) vs1) (hf : freeL a1 y1 y2 = true)
    {na2 nc2 : Nat} (ha : na2 = (putL a1 y1 y2).length) (hc : nc2 = z.length) (ma : (.slice pa2 na2 qa2, putL a1 y1 y2) ∈ vs2) (mc : (.slice pc2 nc2 qc2, z) ∈ vs2) (sub : ∀ y ∈ vs1, y ∈ vs2) : RelIn x h i ou vs pa2 na2 qa2 pc2 nc2 qc2 (no1 + 1) (ou1 ++ [y1]) (putL a1 y1 y2) z vs2 := by
  obtain ⟨h1, h2, h3, h4, h5, h6, h7, h8, h9, h10⟩ := hr
  have hg : grant a1 ((y1, y2) :: z) = (y1 :: (grant (putL a1 y1 y2) z).1, (grant (putL a1 y1 y2) z).2) := by conv => lhs; unfold grant; rw [if_pos hf]
  rw [hg] at h7 h8
  have hl : (putL a1 y1 y2).length ≤ a1.length + 1 := by
    unfold putL
    rw [List.length_append]
    have : (outL a1 y1).length ≤ a1.length := List.length_filter_le _ _
    simp only [List.length_cons, List.length_nil]; omega
  simp only [List.length_cons] at h2
  refine ⟨ha, hc, by rw [List.length_append, h3]; rfl, ma, mc, fun y hy => sub y (h6 y hy), ?_, h8, by omega, by omega⟩
  rw [List.append_assoc]
  exact h7

/-- without of a slice among them: the row by itself. -/
theorem rel_wo1 {w W : World} {X b : Nat} {nm : ByteArray} {a c : Value} {p : Option Addr} {N q : Nat} {tv : RTP} {v5 v6 : Value} {ou : List Int} {tv' : RTP} {vs : List (Value × HM)} {L : List Res} {v : Value} {l : HM} (hs : Sep w W (xParts X b nm a c p N q tv v5 v6 ou tv' vs L)) (hm : (v, l) ∈ vs) (hl : l.length ≤ 1000000) (h : Int) :
    Calls Tryd.prog 34 #[v, .int .i64 h] W fun e W' => ∃ p3 q3, e = .returned (.slice p3 (outL l h).length q3) ∧ Sep w W' (rowRes 76 2 (.slice p3 (outL l h).length q3) (outL l h).length (wCells (outL l h)) :: xParts X b nm a c p N q tv v5 v6 ou tv' vs L) := by
  refine (rwithout_any (rel_vs hs) hm hl h).mono ?_
  rintro e W' ⟨p3, q3, rfl, h3⟩
  exact ⟨p3, q3, rfl, h3.reorder (by unfold xParts relParts; intro x; simp only [List.count_cons]; omega)⟩
theorem rel_tail {w W : World} {X b : Nat} {nm : ByteArray} {a c : Value} {p : Option Addr} {N q : Nat} {tv : RTP} {v5 v6 : Value} {ou : List Int} {tv' : RTP} {vs : List (Value × HM)} {L : List Res} {g o c1 : Nat} {y : Int × Int} {z : HM} (hs : Sep w W (xParts X b nm a c p N q tv v5 v6 ou tv' vs L)) (hx : (.slice (some ⟨g, o, none⟩) (z.length + 1) c1, y :: z) ∈ vs) {v : Value} (hv : v = .slice (some ⟨g, if c1 = 1 then o else o + 2, none⟩) z.length (c1 - 1)) : Sep w W (xParts X b nm a c p N q tv v5 v6 ou tv' ((v, z) :: vs) L) :=
  rel_vs' ((rel_vs hs).heldsTail hx hv)
theorem rel_held {w W : World} {X b : Nat} {nm : ByteArray} {a c : Value} {p : Option Addr} {N q : Nat} {tv : RTP} {v5 v6 : Value} {ou : List Int} {tv' : RTP} {vs : List (Value × HM)} {L : List Res} (hs : Sep w W (xParts X b nm a c p N q tv v5 v6 ou tv' vs L)) {v : Value} {l : HM} (hm : (v, l) ∈ vs) : HeldAt W v l := (rel_vs hs).helds hm

section
variable {w W : World} {X b H : Nat} {nm : ByteArray} {a c : Value} {p : Option Addr} {N q : Nat} {tv : RTP} {v5 v6 : Value} {ou : List Int} {tv' : RTP} {vs : List (Value × HM)} {L : List Res}
theorem rel_h {o : Obj} (hs : Sep w W (xParts X b nm a c p N q tv v5 v6 ou tv' vs (blkRes H o :: L))) : W.heap[H]? = some o := hs.blkOf (by unfold xParts relParts; simp)
theorem rel_h2 {R : Res} {o : Obj} (hs : Sep w W (xParts X b nm a c p N q tv v5 v6 ou tv' vs (R :: blkRes H o :: L))) : W.heap[H]? = some o := hs.blkOf (by unfold xParts relParts; simp)
theorem rel_drop {R : Res} (hs : Sep w W (xParts X b nm a c p N q tv v5 v6 ou tv' vs (R :: L))) : Sep w W (xParts X b nm a c p N q tv v5 v6 ou tv' vs L) :=
  (show Sep w W (R :: xParts X b nm a c p N q tv v5 v6 ou tv' vs L) from hs.reorder (by unfold xParts relParts; intro x; simp only [List.count_cons]; omega)).tail
theorem rel_drop1 {R S : Res} (hs : Sep w W (S :: xParts X b nm a c p N q tv v5 v6 ou tv' vs (R :: L))) : Sep w W (S :: xParts X b nm a c p N q tv v5 v6 ou tv' vs L) :=
  (show Sep w W (R :: S :: xParts X b nm a c p N q tv v5 v6 ou tv' vs L) from hs.reorder (by unfold xParts relParts; intro x; simp only [List.count_cons]; omega)).tail
end
section
variable {w W : World} {X b : Nat} {nm : ByteArray} {a c : Value} {p : Option Addr} {N q : Nat} {tv : RTP} {v5 v6 : Value} {ou : List Int} {tv' : RTP} {vs : List (Value × HM)} {L : List Res}
/-- The row of numbers in front, and back. -/
theorem rel_front (hs : Sep w W (xParts X b nm a c p N q tv v5 v6 ou tv' vs L)) : Sep w W (rowRes 3 1 v5 ou.length (intCells ou) :: blkRes X (.cells #[.string nm, a, c] 71 (0, 0)) :: rowRes 71 3 v6 tv'.length (tCells tv') :: heldsRes vs :: blkRes b (.cells #[.slice p N q] 28 (0, 0)) :: rowRes 71 3 (.slice p N q) N (tCells tv) :: L) := Sep.up1 hs
theorem rel_back {e : Int} (hs : Sep w W (rowRes 3 1 v5 (ou.length + 1) (intCells ou ++ (#[Value.int .i64 e] : Array Value).toList) :: blkRes X (.cells #[.string nm, a, c] 71 (0, 0)) :: rowRes 71 3 v6 tv'.length (tCells tv') :: heldsRes vs :: blkRes b (.cells #[.slice p N q] 28 (0, 0)) :: rowRes 71 3 (.slice p N q) N (tCells tv) :: L)) : Sep w W (xParts X b nm a c p N q tv v5 v6 (ou ++ [e]) tv' vs L) := by
  have e1 : (ou ++ [e]).length = ou.length + 1 := by rw [List.length_append]; rfl
  have e2 : intCells (ou ++ [e]) = intCells ou ++ (#[Value.int .i64 e] : Array Value).toList := by unfold intCells; rw [List.map_append]; rfl
  unfold xParts relParts
  rw [e1, e2]
  exact Sep.up1 hs
/-- The row of things that stay in front; one more, and the thing by itself goes. -/
theorem rel_stay (hs : Sep w W (xParts X b nm a c p N q tv v5 v6 ou tv' vs L)) : Sep w W (rowRes 71 3 v6 tv'.length (tCells tv') :: blkRes X (.cells #[.string nm, a, c] 71 (0, 0)) :: rowRes 3 1 v5 ou.length (intCells ou) :: heldsRes vs :: blkRes b (.cells #[.slice p N q] 28 (0, 0)) :: rowRes 71 3 (.slice p N q) N (tCells tv) :: L) := Sep.up2 hs
theorem rel_stay' {y : Th} (hy : y.name = nm) (hs : Sep w W (rowRes 71 3 v6 (tv'.length + 1) (tCells tv' ++ (#[Value.string nm, a, c] : Array Value).toList) :: blkRes X (.cells #[.string nm, a, c] 71 (0, 0)) :: rowRes 3 1 v5 ou.length (intCells ou) :: heldsRes vs :: blkRes b (.cells #[.slice p N q] 28 (0, 0)) :: rowRes 71 3 (.slice p N q) N (tCells tv) :: L)) : Sep w W (relParts b p N q tv v5 v6 ou (tv' ++ [(y, a, c)]) vs L) := by
  subst hy
  have e1 : (tv' ++ [(y, a, c)]).length = tv'.length + 1 := by rw [List.length_append]; rfl
  have e2 : tCells (tv' ++ [(y, a, c)]) = tCells tv' ++ (#[Value.string y.name, a, c] : Array Value).toList := by rw [tCells_app]; rfl
  unfold relParts
  rw [e1, e2]
  exact Sep.up1 (Sep.up1 hs).tail
/-- At the end. -/
theorem rel_end {t : Tab} {ps : Option Addr} {ns qs : Nat} (hs : Sep w W (relParts b p N q tv v5 (.slice ps ns qs) ou tv' vs L)) (hn : ns = tv'.length) (hm : tv'.map Prod.fst = t) (hv : ∀ y, y ∈ tHelds tv' → y ∈ vs) : Sep w (W.setCell ⟨b, 0, none⟩ (.slice ps ns qs)) (rowRes 3 1 v5 ou.length (intCells ou) :: refRes b t :: L) := by
  have h1 : Sep w W (blkRes b (.cells #[.slice p N q] 28 (0, 0)) :: rowRes 71 3 (.slice p N q) N (tCells tv) :: heldsRes vs :: rowRes 71 3 (.slice ps ns qs) tv'.length (tCells tv') :: rowRes 3 1 v5 ou.length (intCells ou) :: L) := hs.reorder (by unfold relParts; intro x; simp only [List.count_cons]; omega)
  have h2 := h1.store 0 (.slice ps ns qs)
  simp only [List.setIfInBounds_toArray, List.set_cons_succ, List.set_cons_zero] at h2
  have h3 := (h2.up2).heldsSub (vs' := tHelds tv') hv
  have hl : tv'.length = t.length := by rw [← hm, List.length_map]
  rw [← hn] at h3
  have h4 : Sep w (W.setCell ⟨b, 0, none⟩ (.slice ps ns qs)) (openR b ps ns qs tv' (rowRes 71 3 (.slice p N q) N (tCells tv) :: rowRes 3 1 v5 ou.length (intCells ou) :: L)) := h3.reorder (by unfold openR; intro x; simp only [List.count_cons]; omega)
  have h5 := ref_shut h4 (by omega) hm
  exact (h5.up1.tail).up1
end

set_option maxRecDepth 100000 in
set_option maxHeartbeats 4000000 in
theorem rRelease_any {w W : World} {L : List Res} {b : Nat} {t : Tab} (hg : Good t) (h : Int) (hs : Sep w W (refRes b t :: L)) :
    Calls Tryd.prog 17 #[.pointer (some ⟨b, 0, none⟩), .int .i64 h] W fun e W' => ∃ p q, e = .returned (.slice p (relM t h).1.length q) ∧ Sep w W' (rowRes 3 1 (.slice p (relM t h).1.length q) (relM t h).1.length (intCells (relM t h).1) :: refRes b (relM t h).2 :: L) := by
  obtain ⟨ii, II⟩ := info_of Tryd.infoInt
  obtain ⟨ih, IH⟩ := info_of Tryd.infoHeld
  obtain ⟨it, IT⟩ := info_of Tryd.infoThing
  obtain ⟨p, q, tv, hs0, ht⟩ := ref_open hs
  obtain ⟨b0, f0⟩ := ref_tab hs0
  obtain ⟨N, hN⟩ : ∃ N, N = t.length := ⟨_, rfl⟩
  have HN := Lib.hid hN
  have HT := Lib.hid ht
  have HG := Lib.hid hg
  rw [← hN] at b0 hs0
  have hl : N ≤ 256 := by rw [hN]; exact hg.len
  have HS : Hid (Sep w W (relParts b p N q tv (.slice none 0 0) (.slice none 0 0) [] [] (tHelds tv) L)) := (hs0.up2.row_nil 71 3).row_nil 3 1
  clear hs hs0 ht hg hN f0
  go_enter Tryd.func17, Tryd.ntmps17
  go_wp2_with fail
  go_loopw [7, 5, 6] (fun s7 s5 s6 wr => ∃ (i : Nat) (po : Option Addr) (no qo : Nat) (ou : List Int) (ps : Option Addr) (ns qs : Nat) (tv' : RTP) (vs : List (Value × HM)), i ≤ N ∧ s7 = .int .i64 i ∧ s5 = .slice po no qo ∧ s6 = .slice ps ns qs ∧ Aside (no = ou.length) ∧ Aside (ns = tv'.length) ∧ Aside (ou = relHas t h i) ∧ Aside (tv'.map Prod.fst = relStay t h i) ∧ Aside (∀ y, y ∈ tHelds tv ∨ y ∈ tHelds tv' → y ∈ vs) ∧ Aside (Sep w wr (relParts b p N q tv (.slice po no qo) (.slice ps ns qs) ou tv' vs L))) (fun s7 _ _ _ => N - (intOf s7).toNat)
  case atStart => exact ⟨0, none, 0, 0, [], none, 0, 0, [], tHelds tv, Nat.zero_le _, rfl, rfl, rfl, rfl, rfl, (rfl : [] = relHas t h 0), (rfl : [].map Prod.fst = relStay t h 0), (fun y hy => by rcases hy with q | q; exact q; simp [tHelds] at q : ∀ y, y ∈ tHelds tv ∨ y ∈ tHelds [] → y ∈ tHelds tv), HS.out⟩
  case round =>
    obtain ⟨i, po, no, qo, ou, ps, ns, qs, tv', vs, hi, rfl, rfl, rfl, HNO, HNS, HOU, HST, HVS, HS2⟩ := hrel
    have HS2 : Hid (Sep w wr (relParts b p N q tv (.slice po no qo) (.slice ps ns qs) ou tv' vs L)) := HS2
    clear HS b0
    obtain ⟨b0, f0⟩ := rel_tab HS2.out
    by_cases hlt : i < N
    · obtain ⟨x, hx⟩ : ∃ x, t[i]? = some x := ⟨t[i]'(by rw [← HN.out]; exact hlt), List.getElem?_eq_getElem _⟩
      obtain ⟨vh, vq, hy⟩ := tv_at HT.out hx
      obtain ⟨g, rfl, c0, c1, c2⟩ := rel_cells HS2.out hy
      have hm1 : (vh, x.has) ∈ vs := HVS.out _ (.inl (tHelds_at hy).1)
      have hm2 : (vq, x.q) ∈ vs := HVS.out _ (.inl (tHelds_at hy).2)
      obtain ⟨ph, nh, ch, rfl, hnh⟩ := (HS2.out.tail.tail.helds hm1).slice'
      obtain ⟨pq, nq, cq, rfl, hnq⟩ := (HS2.out.tail.tail.helds hm2).slice'
      have HAL : Hid (Sep w (wr.alloc (.cells #[.string x.name, .slice ph nh ch, .slice pq nq cq] 71)) (xParts wr.heap.size b x.name (.slice ph nh ch) (.slice pq nq cq) (some ⟨g, 0, none⟩) N q tv (.slice po no qo) (.slice ps ns qs) ou tv' vs L)) := HS2.out.alloc _ _
      have hgx := HG.out.each x (List.mem_of_getElem? hx)
      have hlh := modes_len1 hgx.has
      have hlq := modes_len1 hgx.q
      have HGX := Lib.hid hgx
      have HX := Lib.hid hx
      have HM1 := Lib.hid hm1
      have HM2 := Lib.hid hm2
      have HNH := Lib.hid hnh
      have HNQ := Lib.hid hnq
      clear hx hy hm1 hm2 hgx hnh hnq
      go_upto_region 7 with fail
      obtain ⟨W1, hW1⟩ : ∃ V : World, V = wr.alloc (.cells #[.string x.name, .slice ph nh ch, .slice pq nq cq] 71) := ⟨_, rfl⟩
      rw [← hW1] at HAL ⊢
      obtain ⟨X, hX⟩ : ∃ X, X = wr.heap.size := ⟨_, rfl⟩
      rw [← hX] at HAL ⊢
      clear hW1 hX HS2 c0 c1 c2
      obtain ⟨⟨x0, x1, x2⟩, y1, y2⟩ := rel_x HAL.out
      obtain ⟨m1, hm1⟩ : ∃ m, m = modeL x.has h := ⟨_, rfl⟩
      obtain ⟨m2, hm2⟩ : ∃ m, m = modeL x.q h := ⟨_, rfl⟩
      have HC1 := Lib.hid (rmode_any W1 ((rel_vs HAL.out).helds HM1.out) (by omega) h)
      have HC2 := Lib.hid (rmode_any W1 ((rel_vs HAL.out).helds HM2.out) (by omega) h)
      rw [← hm1] at HC1
      rw [← hm2] at HC2
      obtain ⟨mi, hmi⟩ : ∃ m, m = mineB x h := ⟨_, rfl⟩
      have hmi2 : mi = (decide (0 < m1) || decide (0 < m2)) := by rw [hmi, hm1, hm2]; rfl
      have HMI := Lib.hid hmi
      clear hmi hm1 hm2
      go_cut [9] (fun s9 wx => s9 = .bool mi ∧ W1 = wx)
      case first =>
        by_cases p1 : 0 < m1
        · have e : mi = true := by rw [hmi2, decide_eq_true p1, Bool.true_or]
          subst e
          clear hmi2 HC2
          go_wp2_with (go_at_call 35; refine HC1.out.mono ?_; rintro e w3 ⟨rfl, rfl⟩)
          go_meet
          exact ⟨rfl, rfl⟩
        · rw [decide_eq_false p1, Bool.false_or] at hmi2
          have HMI2 := Lib.hid hmi2
          clear hmi2
          go_wp2_with (go_at_call 35; first | (refine HC1.out.mono ?_; rintro e w3 ⟨rfl, rfl⟩; clear HC1) | (refine HC2.out.mono ?_; rintro e w3 ⟨rfl, rfl⟩))
          go_meet
          exact ⟨by rw [HMI2.out, decide_eq_false (by omega), Bool.false_or], rfl⟩
      case rest =>
      obtain ⟨rfl, rfl⟩ := hcut
      clear HC1 HC2 hmi2
      have HS3 := HAL
      clear HAL
      have HWA : Hid (∀ V, Sep w V (xParts X b x.name (.slice ph nh ch) (.slice pq nq cq) (some ⟨g, 0, none⟩) N q tv (.slice po no qo) (.slice ps ns qs) ou tv' vs L) → _) := fun V hV => rel_wo (v := .slice ph nh ch) (l := x.has) hV HM1.out (by omega) h
      have HWB : Hid (∀ (V : World) (z : Value × HM), Sep w V (xParts X b x.name (.slice ph nh ch) (.slice pq nq cq) (some ⟨g, 0, none⟩) N q tv (.slice po no qo) (.slice ps ns qs) ou tv' (z :: vs) L) → _) := fun V z hV => rel_wo (v := .slice pq nq cq) (l := x.q) hV (List.mem_cons_of_mem _ HM2.out) (by omega) h
      go_upto_region 8 with fail
      go_cut [] (fun wx => ∃ p3 q3 p4 q4, Sep w wx (xParts X b x.name (.slice p3 (outL x.has h).length q3) (.slice p4 (outL x.q h).length q4) (some ⟨g, 0, none⟩) N q tv (.slice po no qo) (.slice ps ns qs) ou tv' ((.slice p4 (outL x.q h).length q4, outL x.q h) :: (.slice p3 (outL x.has h).length q3, outL x.has h) :: vs) L))
      case first =>
        go_wp2_with fail
        refine wp_region_last (S := (fun w' => w'.cell? ⟨X, 2, none⟩ = some (.slice pq nq cq))) (by kernel_rfl) 11 _ rfl rfl rfl (by kernel_rfl) [10, 9, 8, 7, 6, 5, 4, 3, 2, 1, 0] (by kernel_rfl) (by kernel_rfl) ?_ (fun hHeld => ?_)
        · (try dsimp only); (first | go_keep | assumption)
        simp only [lull, List.setIfInBounds_toArray, List.set_cons_succ, List.set_cons_zero]
        refine wpAnyH_take (i := 0) (v := ?_) rfl (by kernel_rfl) (by kernel_rfl) (by kernel_rfl) (fun _ _ _ h => h) (Or.inl ⟨by rfl, ?_⟩) (by assumption) ?_
        rotate_left
        · (intro w hSw; (try dsimp only at hSw); go_simp; try with_reducible rfl)
        (try simp only [Act.put, List.setIfInBounds_toArray, List.set_cons_zero, List.set_cons_succ])
        refine wpAnyH_take (i := 2) (v := ?_) rfl (by kernel_rfl) (by kernel_rfl) (by kernel_rfl) (fun _ _ _ h => h) (Or.inl ⟨by rfl, ?_⟩) (by assumption) ?_
        rotate_left
        · (intro w hSw; (try dsimp only at hSw); go_simp; try with_reducible rfl)
        (try simp only [Act.put, List.setIfInBounds_toArray, List.set_cons_zero, List.set_cons_succ])
        refine wpAnyH_take (i := 4) (v := ?_) rfl (by kernel_rfl) (by kernel_rfl) (by kernel_rfl) (fun _ _ _ h => h) (Or.inl ⟨by rfl, ?_⟩) (by assumption) ?_
        rotate_left
        · (intro w hSw; (try dsimp only at hSw); go_simp; try with_reducible rfl)
        (try simp only [Act.put, List.setIfInBounds_toArray, List.set_cons_zero, List.set_cons_succ])
        refine wpAnyH_take (i := 5) (v := ?_) rfl (by kernel_rfl) (by kernel_rfl) (by kernel_rfl) (fun _ _ _ h => h) (Or.inl ⟨by rfl, ?_⟩) (by assumption) ?_
        rotate_left
        · (intro w hSw; (try dsimp only at hSw); go_simp; try with_reducible rfl)
        (try simp only [Act.put, List.setIfInBounds_toArray, List.set_cons_zero, List.set_cons_succ])
        refine wpAnyH_take (i := 6) (v := ?_) rfl (by kernel_rfl) (by kernel_rfl) (by kernel_rfl) (fun _ _ _ h => h) (Or.inl ⟨by rfl, ?_⟩) (by assumption) ?_
        rotate_left
        · (intro w hSw; (try dsimp only at hSw); go_simp; try with_reducible rfl)
        (try simp only [Act.put, List.setIfInBounds_toArray, List.set_cons_zero, List.set_cons_succ])
        refine wpAnyH_ready (rs := [1]) (by kernel_rfl) (by simp) ?_
        refine AllReadyH.cons rfl (fun K hK => ?_) ?_
        · go_simp
          refine hK.out _ _ ?_ (fun hH1 => ?_)
          · (try dsimp only); (first | go_keep | assumption)
          clear hK K hHeld
          (try simp only [Act.put, List.setIfInBounds_toArray, List.set_cons_zero, List.set_cons_succ])
          refine wpAnyH_ready (rs := [3]) (by kernel_rfl) (by simp) ?_
          refine AllReadyH.cons rfl (fun K hK => ?_) ?_
          · (go_simp; go_wp2_with (go_at_call 34; refine (HWA.out _ (by first | exact HS3.out | exact HS3.out.drew)).mono ?_; rintro e w3 ⟨p3, q3, rfl, hs3⟩; have HS4 := Lib.hid hs3; have k2 := (rel_x HS4.out).1.2.2; clear hs3))
            refine hK.out _ _ ?_ (fun hH2 => ?_)
            · (try dsimp only); (first | go_keep | assumption)
            clear hK K hH1
            (try simp only [Act.put, List.setIfInBounds_toArray, List.set_cons_zero, List.set_cons_succ])
            refine wpAnyH_take (i := 8) (v := ?_) rfl (by kernel_rfl) (by kernel_rfl) (by kernel_rfl) (fun _ _ _ h => h) (Or.inl ⟨by rfl, ?_⟩) (by assumption) ?_
            rotate_left
            · (intro w hSw; (try dsimp only at hSw); go_simp; try with_reducible rfl)
            (try simp only [Act.put, List.setIfInBounds_toArray, List.set_cons_zero, List.set_cons_succ])
            refine wpAnyH_ready (rs := [7]) (by kernel_rfl) (by simp) ?_
            refine AllReadyH.cons rfl (fun K hK => ?_) ?_
            · (go_simp; go_wp2_with (go_at_call 34; refine (HWB.out _ _ (by first | exact HS4.out | exact HS4.out.drew)).mono ?_; rintro e w4 ⟨p4, q4, rfl, hs4⟩; have HS5 := Lib.hid hs4; have k3 := (rel_x HS5.out).1.2.2; have k4 := (rel_x HS5.out).1.2.1; have f3 := (rel_x HS5.out).2.1; have f4 := (rel_x HS5.out).2.2; clear hs4))
              refine hK.out _ _ ?_ (fun hH3 => ?_)
              · (try dsimp only); (first | go_keep | assumption)
              clear hK K hH2
              (try simp only [Act.put, List.setIfInBounds_toArray, List.set_cons_zero, List.set_cons_succ])
              refine wpAnyH_ready (rs := [9]) (by kernel_rfl) (by simp) ?_
              refine AllReadyH.cons rfl (fun K hK => ?_) ?_
              · (go_simp; have k5 := (rel_x (rel_set1 HS5.out (.slice p3 (outL x.has h).length q3))).1.2.2)
                refine hK.out _ _ ?_ (fun hH4 => ?_)
                · (try dsimp only); (first | go_keep | assumption)
                clear hK K hH3
                (try simp only [Act.put, List.setIfInBounds_toArray, List.set_cons_zero, List.set_cons_succ])
                refine wpAnyH_take (i := 10) (v := ?_) rfl (by kernel_rfl) (by kernel_rfl) (by kernel_rfl) (fun _ _ _ h => h) (Or.inl ⟨by rfl, ?_⟩) (by assumption) ?_
                rotate_left
                · (intro w hSw; (try dsimp only at hSw); go_simp; try with_reducible rfl)
                (try simp only [Act.put, List.setIfInBounds_toArray, List.set_cons_zero, List.set_cons_succ])
                refine wpAnyH_take (i := 11) (v := ?_) rfl (by kernel_rfl) (by kernel_rfl) (by kernel_rfl) (fun _ _ _ h => h) (Or.inl ⟨by rfl, ?_⟩) (by assumption) ?_
                rotate_left
                · (intro w hSw; (try dsimp only at hSw); go_simp; try with_reducible rfl)
                (try simp only [Act.put, List.setIfInBounds_toArray, List.set_cons_zero, List.set_cons_succ])
                refine wpAnyH_done (by kernel_rfl) ?_ _
                refine tail_run rfl rfl ?_
                clear hH4
                go_simp
                go_wp2_with fail
                go_meet
                exact ⟨p3, q3, p4, q4, rel_set2 (rel_set1 HS5.out _) _⟩
              exact AllReadyH.nil
            exact AllReadyH.nil
          exact AllReadyH.nil
        exact AllReadyH.nil
      case rest =>
      obtain ⟨p3, q3, p4, q4, hcut⟩ := hcut
      have HO1 : Hid (ou.length ≤ 1001 * i) := by have h1 : ou = relHas t h i := HOU; show ou.length ≤ _; rw [h1]; exact relHas_len HG.out h i (by rw [← HN.out]; exact hi)
      have HNO : Hid (no = ou.length) := HNO
      have HRI : Hid (RelIn x h i ou vs p3 (outL x.has h).length q3 p4 (outL x.q h).length q4 no ou (outL x.has h) (outL x.q h) ((.slice p4 (outL x.q h).length q4, outL x.q h) :: (.slice p3 (outL x.has h).length q3, outL x.has h) :: vs)) := RelIn.start HGX.out HO1.out HNO.out (by simp) (by simp) (fun y hy => by simp [hy])
      have HS4 := Lib.hid hcut
      obtain ⟨V1, hV1⟩ : ∃ V : World, V = wc := ⟨_, rfl⟩
      rw [← hV1] at HS4 ⊢
      clear hcut hV1 HS3 x0 x1 x2 y1 y2 HWA HWB HO1
      go_upto_block 2 with fail
      go_cut [5] (fun s5 wx => ∃ (pa : Option Addr) (na qa : Nat) (pc : Option Addr) (nc qc : Nat) (po1 : Option Addr) (no1 qo1 : Nat) (ou1 : List Int) (vs1 : List (Value × HM)), s5 = .slice po1 no1 qo1 ∧ Aside (RelOut x h i ou vs pa na qa pc nc qc no1 ou1 vs1) ∧ Aside (Sep w wx (xParts X b x.name (.slice pa na qa) (.slice pc nc qc) (some ⟨g, 0, none⟩) N q tv (.slice po1 no1 qo1) (.slice ps ns qs) ou1 tv' vs1 L)))
      case first =>
        cases mi with
        | false =>
          have HSTOP := Lib.hid (HRI.out.stop (mine_not HGX.out HMI.out.symm))
          go_wp2_with fail
          go_loopw [5] (fun s5 wr => s5 = .slice po no qo ∧ V1 = wr) (fun s5 _ => 0)
          case atStart => exact ⟨rfl, rfl⟩
          case round =>
            obtain ⟨rfl, rfl⟩ := hrel
            go_upto_region 9 with fail
            go_quiet (fail)
            have HS5 := Lib.hid (HS4.out.only (Only.drewN [] V1 nq))
            generalize V1.drewN nq = V2 at *
            go_wp2_with fail
            go_meet
            exact ⟨p3, _, q3, p4, _, q4, po, no, qo, ou, _, rfl, HSTOP.out, HS5.out⟩
        | true =>
          obtain ⟨NQ, hNQ⟩ : ∃ n, n = (outL x.q h).length := ⟨_, rfl⟩
          have HNQ1 := Lib.hid hNQ
          clear hNQ
          go_wp2_with fail
          go_loopg [5] NQ (fun gg s5 wr => ∃ (pa : Option Addr) (na qa : Nat) (pc : Option Addr) (nc qc : Nat) (po1 : Option Addr) (no1 qo1 : Nat) (ou1 : List Int) (a1 c1 : HM) (vs1 : List (Value × HM)), nc ≤ gg ∧ s5 = .slice po1 no1 qo1 ∧ Aside (RelIn x h i ou vs pa na qa pc nc qc no1 ou1 a1 c1 vs1) ∧ Aside (Sep w wr (xParts X b x.name (.slice pa na qa) (.slice pc nc qc) (some ⟨g, 0, none⟩) N q tv (.slice po1 no1 qo1) (.slice ps ns qs) ou1 tv' vs1 L)))
          case atStart => exact ⟨p3, _, q3, p4, _, q4, po, no, qo, ou, _, _, _, by rw [HNQ1.out]; exact Nat.le_refl _, rfl, HRI.out, HS4.out⟩
          case round =>
            obtain ⟨pa, na, qa, pc, nc, qc, po1, no1, qo1, ou1, a1, c1, vs1, hgg, rfl, HR, HS5⟩ := hrel
            have HR : Hid (RelIn x h i ou vs pa na qa pc nc qc no1 ou1 a1 c1 vs1) := HR
            have HS5 : Hid (Sep w wr (xParts X b x.name (.slice pa na qa) (.slice pc nc qc) (some ⟨g, 0, none⟩) N q tv (.slice po1 no1 qo1) (.slice ps ns qs) ou1 tv' vs1 L)) := HS5
            obtain ⟨⟨x0, x1, x2⟩, y1, y2⟩ := rel_x HS5.out
            clear HS4
            obtain ⟨V2, hV2⟩ : ∃ V : World, V = wr := ⟨_, rfl⟩
            rw [← hV2] at HS5 x0 x1 x2 y1 y2 ⊢
            clear hV2
            cases c1 with
            | nil =>
              have hn0 : nc = 0 := HR.out.enc
              subst hn0
              have HSTOP := Lib.hid (HR.out.stop rfl)
              go_upto_region 9 with fail
              go_quiet (fail)
              have HS6 := Lib.hid (HS5.out.only (Only.drewN [] V2 nq))
              generalize V2.drewN nq = V3 at *
              go_wp2_with fail
              go_meet
              exact ⟨pa, _, qa, pc, _, qc, po1, no1, qo1, ou1, _, rfl, HSTOP.out, HS6.out⟩
            | cons y z =>
              obtain ⟨e1, e2⟩ := y
              rcases rel_held HS5.out HR.out.mc with ⟨_, a⟩ | ⟨g2, o2, cc, a, hg2, hcc, hcm, hcl⟩
              · cases a
              simp only [Value.slice.injEq] at a
              obtain ⟨rfl, hncx, rfl⟩ := a
              clear hncx
              have r0 := hcl 0 (.int .i64 e1) rfl
              have r1 := hcl 1 (.int .i64 e2) rfl
              rw [Nat.add_zero] at r0
              have hnc : nc = z.length + 1 := HR.out.enc
              have HNC := Lib.hid hnc
              have hp0 : 0 < nc := by omega
              have hp1 : decide (0 < nc) = true := decide_eq_true hp0
              have HCC : Hid (nc ≤ qc) := by have h1 : z.length + 1 ≤ qc := hcc; show nc ≤ qc; omega
              have HFRV : Hid (∀ V, Only [] V2 V → Calls Tryd.prog 33 #[.agg #[.string x.name, .slice pa na qa, .slice (some ⟨g2, o2, none⟩) nc qc], .int .i64 e1, .int .i64 e2] V fun e W' => e = .returned (.bool (freeL a1 e1 e2)) ∧ Only [] V W') := fun V hV => rfree_any V x.name _ (rel_held (HS5.out.only hV) HR.out.ma) (by have h1 := HR.out.ena; have h2 := HR.out.la; omega) e1 e2
              obtain ⟨fr, hfr⟩ : ∃ f, f = freeL a1 e1 e2 := ⟨_, rfl⟩
              rw [← hfr] at HFRV
              have HFRE := Lib.hid hfr
              clear hcl hg2 hcc hcm hnc hfr
              go_upto_region 9 with fail
              go_cut [69] (fun s69 wx => s69 = .bool fr ∧ Aside (Only [] V2 wx))
              case first =>
                go_region_held3 (fun w' => w'.cell? ⟨X, 0, none⟩ = some (.string x.name) ∧ w'.cell? ⟨X, 1, none⟩ = some (.slice pa na qa) ∧ w'.cell? ⟨X, 2, none⟩ = some (.slice (some ⟨g2, o2, none⟩) nc qc) ∧ w'.cell? ⟨g2, o2, none⟩ = some (.int .i64 e1) ∧ w'.cell? ⟨g2, o2 + 1, none⟩ = some (.int .i64 e2)) (first | go_keep | (refine ⟨?_, ?_, ?_, ?_, ?_⟩ <;> assumption)) (first | (go_at_call 33; refine (HFRV.out _ (by first | exact Only.refl _ _ | exact Only.drew _ _)).mono ?_; rintro e w4 ⟨rfl, ho4⟩; have HO4 : Hid (Only [] V2 w4) := (by first | exact ho4 | exact (Only.drew _ _).trans ho4 (Within.nil _ _)); have HS6 := Lib.hid (HS5.out.only HO4.out); have hh6 := (rel_held HS6.out HR.out.mc).cells; have s0 := hh6 0 (.int .i64 e1) rfl; have s1 := hh6 1 (.int .i64 e2) rfl; rw [Nat.add_zero] at s0; have k0 := (rel_x HS6.out).1.1; have k1 := (rel_x HS6.out).1.2.1; have k2 := (rel_x HS6.out).1.2.2; clear ho4 hh6))
                all_goals
                  go_wp2_with fail
                  go_meet
                  exact ⟨rfl, HO4.out⟩
              case rest =>
              obtain ⟨rfl, HO4⟩ := hcut
              have HO4 : Hid (Only [] V2 wc) := HO4
              have HS6 := Lib.hid (HS5.out.only HO4.out)
              obtain ⟨V3, hV3⟩ : ∃ V : World, V = wc := ⟨_, rfl⟩
              rw [← hV3] at HS6 ⊢
              clear hV3 HO4 HS5 HFRV x0 x1 x2 y1 y2 r0 r1
              obtain ⟨⟨x0, x1, x2⟩, y1, y2⟩ := rel_x HS6.out
              cases fr with
              | false =>
                have HSTOP := Lib.hid (HR.out.stop (by unfold grant; rw [← HFRE.out]; rfl))
                go_wp2_with fail
                go_meet
                exact ⟨pa, _, qa, _, _, qc, po1, no1, qo1, ou1, _, rfl, HSTOP.out, HS6.out⟩
              | true =>
                have hh6 := (rel_held HS6.out HR.out.mc).cells
                have r0 := hh6 0 (.int .i64 e1) rfl
                have r1 := hh6 1 (.int .i64 e2) rfl
                rw [Nat.add_zero] at r0
                have HMC : Hid ((.slice (some ⟨g2, o2, none⟩) (z.length + 1) qc, (e1, e2) :: z) ∈ vs1) := by have h9 := HR.out.mc; rw [HNC.out] at h9; exact h9
                have HNC1 : Hid (nc - 1 = z.length) := by have h9 := HNC.out; show nc - 1 = z.length; omega
                have HLA : Hid ((outL a1 e1).length ≤ 2002) := by have h7 := HR.out.ena; have h8 := HR.out.la; have h9 : (outL a1 e1).length ≤ a1.length := List.length_filter_le _ _; show (outL a1 e1).length ≤ 2002; omega
                have HLO : Hid (ou1.length ≤ 300000) := by have h7 := HR.out.eno; have h8 := HR.out.lo; show ou1.length ≤ 300000; omega
                clear hh6
                go_upto_region 11 with fail
                have HAL : Hid (Sep w (V3.alloc (.cells #[.int .i64 e1, .int .i64 e2] 76)) (xParts X b x.name (.slice pa na qa) (.slice (some ⟨g2, o2, none⟩) nc qc) (some ⟨g, 0, none⟩) N q tv (.slice po1 no1 qo1) (.slice ps ns qs) ou1 tv' vs1 (blkRes V3.heap.size (.cells #[.int .i64 e1, .int .i64 e2] 76 (0, 0)) :: L))) := (HS6.out.alloc #[.int .i64 e1, .int .i64 e2] 76).reorder (by unfold xParts relParts; intro x; simp only [List.count_cons]; omega)
                obtain ⟨V4, hV4⟩ : ∃ V : World, V = V3.alloc (.cells #[.int .i64 e1, .int .i64 e2] 76) := ⟨_, rfl⟩
                rw [← hV4] at HAL ⊢
                obtain ⟨H, hH⟩ : ∃ X, X = V3.heap.size := ⟨_, rfl⟩
                rw [← hH] at HAL ⊢
                clear hV4 hH HS6 x0 x1 x2 y1 y2 r0 r1
                obtain ⟨⟨x0, x1, x2⟩, y1, y2⟩ := rel_x HAL.out
                go_cut [] (fun wx => ∃ pt qt, Sep w wx (xParts X b x.name (.slice pa na qa) (.slice pt z.length qt) (some ⟨g, 0, none⟩) N q tv (.slice po1 no1 qo1) (.slice ps ns qs) ou1 tv' ((.slice pt z.length qt, z) :: vs1) (blkRes H (.cells #[.int .i64 e1, .int .i64 e2] 76 (0, 0)) :: L)))
                case first =>
                  have hle : 1 ≤ nc := hp0
                  have hlq : nc ≤ qc := HCC.out
                  have hlq1 : 1 ≤ qc := by omega
                  by_cases hq1 : qc = 1
                  · subst hq1
                    have HZ : Hid (z.length = 0) := by have h9 := HNC.out; show z.length = 0; omega
                    have h9 := Lib.hid (rel_set2 (rel_tail HAL.out HMC.out (v := .slice (some ⟨g2, o2, none⟩) z.length 0) rfl) (.slice (some ⟨g2, o2, none⟩) z.length 0))
                    go_wp2_with fail
                    go_meet
                    refine ⟨some ⟨g2, o2, none⟩, 0, ?_⟩
                    have h8 := h9.out
                    rw [HZ.out] at h8 ⊢
                    exact h8
                  · have h9 := Lib.hid (rel_set2 (rel_tail HAL.out HMC.out (v := .slice (some ⟨g2, o2 + 2, none⟩) z.length (qc - 1)) (by rw [if_neg hq1])) (.slice (some ⟨g2, o2 + 2, none⟩) z.length (qc - 1)))
                    go_wp2_with fail
                    go_meet
                    refine ⟨some ⟨g2, o2 + 2, none⟩, qc - 1, ?_⟩
                    rw [HNC1.out]
                    exact h9.out
                case rest =>
                obtain ⟨pt, qt, hcut⟩ := hcut
                have HS7 := Lib.hid hcut
                obtain ⟨V5, hV5⟩ : ∃ V : World, V = wc := ⟨_, rfl⟩
                rw [← hV5] at HS7 ⊢
                clear hV5 hcut HAL x0 x1 x2 y1 y2 hp0 hp1 HCC
                obtain ⟨⟨x0, x1, x2⟩, y1, y2⟩ := rel_x HS7.out
                have z0 := cell_of_block (rel_h HS7.out) 0 (v := .int .i64 e1) rfl
                have z1 := cell_of_block (rel_h HS7.out) 1 (v := .int .i64 e2) rfl
                have HMA : Hid ((.slice pa na qa, a1) ∈ (.slice pt z.length qt, z) :: vs1) := List.mem_cons_of_mem _ HR.out.ma
                have HWC : Hid (∀ (V : World) (Lx : List Res), Sep w V (xParts X b x.name (.slice pa na qa) (.slice pt z.length qt) (some ⟨g, 0, none⟩) N q tv (.slice po1 no1 qo1) (.slice ps ns qs) ou1 tv' ((.slice pt z.length qt, z) :: vs1) Lx) → _) := fun V Lx hV => rel_wo1 (v := .slice pa na qa) (l := a1) hV HMA.out (by have h7 := HR.out.ena; have h8 := HR.out.la; omega) e1
                have HSB : Hid (Sep w (V5.alloc (.cells #[.int .i64 e1, .int .i64 e2] 76)) (xParts X b x.name (.slice pa na qa) (.slice pt z.length qt) (some ⟨g, 0, none⟩) N q tv (.slice po1 no1 qo1) (.slice ps ns qs) ou1 tv' ((.slice pt z.length qt, z) :: vs1) (blkRes V5.heap.size (.cells #[.int .i64 e1, .int .i64 e2] 76 (0, 0)) :: blkRes H (.cells #[.int .i64 e1, .int .i64 e2] 76 (0, 0)) :: L))) := (HS7.out.alloc #[.int .i64 e1, .int .i64 e2] 76).reorder (by unfold xParts relParts; intro x; simp only [List.count_cons]; omega)
                have HFIN : Hid (∀ (V : World) (p7 : Option Addr) (q7 : Nat), Sep w V (rowRes 76 2 (.slice p7 ((outL a1 e1).length + 1) q7) ((outL a1 e1).length + 1) (wCells (outL a1 e1) ++ (#[Value.int .i64 e1, .int .i64 e2] : Array Value).toList) :: xParts X b x.name (.slice pa na qa) (.slice pt z.length qt) (some ⟨g, 0, none⟩) N q tv (.slice po1 no1 qo1) (.slice ps ns qs) ou1 tv' ((.slice pt z.length qt, z) :: vs1) (blkRes H (.cells #[.int .i64 e1, .int .i64 e2] 76 (0, 0)) :: L)) →
                    Sep w (V.setCell ⟨X, 1, none⟩ (.slice p7 ((outL a1 e1).length + 1) q7)) (xParts X b x.name (.slice p7 ((outL a1 e1).length + 1) q7) (.slice pt z.length qt) (some ⟨g, 0, none⟩) N q tv (.slice po1 no1 qo1) (.slice ps ns qs) ou1 tv' ((.slice p7 ((outL a1 e1).length + 1) q7, putL a1 e1 e2) :: (.slice pt z.length qt, z) :: vs1) (blkRes H (.cells #[.int .i64 e1, .int .i64 e2] 76 (0, 0)) :: L))) := by
                  intro V p7 q7 hV
                  rw [← wCells_snoc] at hV
                  exact rel_set1 (rel_join (l := putL a1 e1 e2) hV (by unfold putL; rw [List.length_append]; rfl)) _
                have ka0 : (V5.alloc (.cells #[.int .i64 e1, .int .i64 e2] 76)).cell? ⟨X, 1, none⟩ = some (.slice pa na qa) := Lib.cell?_alloc_some _ x1
                have ka1 : (V5.alloc (.cells #[.int .i64 e1, .int .i64 e2] 76)).cell? ⟨H, 0, none⟩ = some (.int .i64 e1) := Lib.cell?_alloc_some _ z0
                have ka2 : (V5.alloc (.cells #[.int .i64 e1, .int .i64 e2] 76)).cell? ⟨H, 1, none⟩ = some (.int .i64 e2) := Lib.cell?_alloc_some _ z1
                clear x0 x2
                go_upto_region 12 with fail
                go_cut [] (fun wx => ∃ p7 q7, Sep w wx (xParts X b x.name (.slice p7 ((outL a1 e1).length + 1) q7) (.slice pt z.length qt) (some ⟨g, 0, none⟩) N q tv (.slice po1 no1 qo1) (.slice ps ns qs) ou1 tv' ((.slice p7 ((outL a1 e1).length + 1) q7, putL a1 e1 e2) :: (.slice pt z.length qt, z) :: vs1) (blkRes H (.cells #[.int .i64 e1, .int .i64 e2] 76 (0, 0)) :: L)))
                case first =>
                  go_wp2_with fail
                  refine wp_region_last (S := (fun w' => w'.cell? ⟨X, 1, none⟩ = some (.slice pa na qa) ∧ w'.cell? ⟨H, 0, none⟩ = some (.int .i64 e1) ∧ w'.cell? ⟨H, 1, none⟩ = some (.int .i64 e2))) (by kernel_rfl) 9 _ rfl rfl rfl (by kernel_rfl) [8, 7, 6, 5, 4, 3, 2, 1, 0] (by kernel_rfl) (by kernel_rfl) ?_ (fun hHeld => ?_)
                  · (try dsimp only); (first | go_keep | (refine ⟨?_, ?_, ?_⟩ <;> assumption))
                  simp only [lull, List.setIfInBounds_toArray, List.set_cons_succ, List.set_cons_zero]
                  refine wpAnyH_take (i := 0) (v := ?_) rfl (by kernel_rfl) (by kernel_rfl) (by kernel_rfl) (fun _ _ _ h => h) (Or.inl ⟨by rfl, ?_⟩) (by assumption) ?_
                  rotate_left
                  · (intro w hSw; (try dsimp only at hSw); go_simp; try with_reducible rfl)
                  (try simp only [Act.put, List.setIfInBounds_toArray, List.set_cons_zero, List.set_cons_succ])
                  refine wpAnyH_take (i := 1) (v := ?_) rfl (by kernel_rfl) (by kernel_rfl) (by kernel_rfl) (fun _ _ _ h => h) (Or.inl ⟨by rfl, ?_⟩) (by assumption) ?_
                  rotate_left
                  · (intro w hSw; (try dsimp only at hSw); go_simp; try with_reducible rfl)
                  (try simp only [Act.put, List.setIfInBounds_toArray, List.set_cons_zero, List.set_cons_succ])
                  refine wpAnyH_take (i := 2) (v := ?_) rfl (by kernel_rfl) (by kernel_rfl) (by kernel_rfl) (fun _ _ _ h => h) (Or.inl ⟨by rfl, ?_⟩) (by assumption) ?_
                  rotate_left
                  · (intro w hSw; (try dsimp only at hSw); go_simp; try with_reducible rfl)
                  (try simp only [Act.put, List.setIfInBounds_toArray, List.set_cons_zero, List.set_cons_succ])
                  refine wpAnyH_take (i := 3) (v := ?_) rfl (by kernel_rfl) (by kernel_rfl) (by kernel_rfl) (fun _ _ _ h => h) (Or.inl ⟨by rfl, ?_⟩) (by assumption) ?_
                  rotate_left
                  · (intro w hSw; (try dsimp only at hSw); go_simp; try with_reducible rfl)
                  (try simp only [Act.put, List.setIfInBounds_toArray, List.set_cons_zero, List.set_cons_succ])
                  refine wpAnyH_take (i := 5) (v := ?_) rfl (by kernel_rfl) (by kernel_rfl) (by kernel_rfl) (fun _ _ _ h => h) (Or.inl ⟨by rfl, ?_⟩) (by assumption) ?_
                  rotate_left
                  · (intro w hSw; (try dsimp only at hSw); go_simp; try with_reducible rfl)
                  (try simp only [Act.put, List.setIfInBounds_toArray, List.set_cons_zero, List.set_cons_succ])
                  refine wpAnyH_ready (rs := [4, 6]) (by kernel_rfl) (by simp) ?_
                  refine AllReadyH.cons rfl (fun K hK => ?_) ?_
                  · (go_simp; go_wp2_with (go_at_call 34; first | (refine (HWC.out _ _ HS7.out.drew).mono ?_; rintro e w6 ⟨p6, q6, rfl, hs6⟩; have HS8 := Lib.hid hs6; have k1 := (rel_x HS8.out.tail).1.2.1; have k2 := cell_of_block (rel_h HS8.out.tail) 0 (v := .int .i64 e1) rfl; have k3 := cell_of_block (rel_h HS8.out.tail) 1 (v := .int .i64 e2) rfl; have m1 : (w6.alloc (.cells #[.int .i64 e1, .int .i64 e2] 76)).cell? ⟨X, 1, none⟩ = some (.slice pa na qa) := Lib.cell?_alloc_some _ k1; have m2 : (w6.alloc (.cells #[.int .i64 e1, .int .i64 e2] 76)).cell? ⟨H, 0, none⟩ = some (.int .i64 e1) := Lib.cell?_alloc_some _ k2; have m3 : (w6.alloc (.cells #[.int .i64 e1, .int .i64 e2] 76)).cell? ⟨H, 1, none⟩ = some (.int .i64 e2) := Lib.cell?_alloc_some _ k3; clear hs6) | (refine (HWC.out _ _ HSB.out.drew).mono ?_; rintro e w6 ⟨p6, q6, rfl, hs6⟩; have HS8 := Lib.hid hs6; have k1 := (rel_x HS8.out.tail).1.2.1; have k2 := cell_of_block (rel_h2 HS8.out.tail) 0 (v := .int .i64 e1) rfl; have k3 := cell_of_block (rel_h2 HS8.out.tail) 1 (v := .int .i64 e2) rfl; clear hs6)))
                    refine hK.out _ _ ?_ (fun hH1 => ?_)
                    · (try dsimp only); (first | go_keep | (refine ⟨?_, ?_, ?_⟩ <;> assumption))
                    clear hK K hHeld
                    (try simp only [Act.put, List.setIfInBounds_toArray, List.set_cons_zero, List.set_cons_succ])
                    refine wpAnyH_ready (rs := [6]) (by kernel_rfl) (by simp) ?_
                    refine AllReadyH.cons rfl (fun K hK => ?_) ?_
                    · go_simp
                      refine hK.out _ _ ?_ (fun hH2 => ?_)
                      · (try dsimp only); (first | go_keep | (refine ⟨?_, ?_, ?_⟩ <;> assumption))
                      clear hK K hH1
                      (try simp only [Act.put, List.setIfInBounds_toArray, List.set_cons_zero, List.set_cons_succ])
                      refine wpAnyH_ready (rs := [7]) (by kernel_rfl) (by simp) ?_
                      refine AllReadyH.cons rfl (fun K hK => ?_) ?_
                      · (first | (refine step_append_sep (w := w) (e := 76) (B := w6.heap.size) rfl (.tmp 82) (.tmp 84) 69 rfl ih _ 2 16 Tryd.underlying69 IH.out rfl (by decide) (.slice p6 (outL a1 e1).length q6) (outL a1 e1).length (wCells (outL a1 e1)) rfl rfl heap_alloc_self rfl (ent_one12 e1 e2) (HS8.out.forget (.cells #[.int .i64 e1, .int .i64 e2] 76)) (by have h9 := HLA.out; unfold maxLen; omega) (by have h9 := HLA.out; omega) ?_; intro p7 q7 w7 hs7; have HS9 := Lib.hid hs7; clear hs7) | (refine step_append_sep (w := w) (e := 76) (B := V5.heap.size) rfl (.tmp 82) (.tmp 84) 69 rfl ih _ 2 16 Tryd.underlying69 IH.out rfl (by decide) (.slice p6 (outL a1 e1).length q6) (outL a1 e1).length (wCells (outL a1 e1)) rfl rfl (rel_h HS8.out.tail) rfl (ent_one12 e1 e2) HS8.out (by have h9 := HLA.out; unfold maxLen; omega) (by have h9 := HLA.out; omega) ?_; intro p7 q7 w7 hs7; have HS9 := Lib.hid (rel_drop1 hs7); clear hs7)); have n1 := (rel_x HS9.out.tail).1.2.1; have n2 := cell_of_block (rel_h HS9.out.tail) 0 (v := .int .i64 e1) rfl; have n3 := cell_of_block (rel_h HS9.out.tail) 1 (v := .int .i64 e2) rfl; have nf := (rel_x HS9.out.tail).2.1
                        refine hK.out _ _ ?_ (fun hH3 => ?_)
                        · (try dsimp only); (first | go_keep | (refine ⟨?_, ?_, ?_⟩ <;> assumption))
                        clear hK K hH2
                        (try simp only [Act.put, List.setIfInBounds_toArray, List.set_cons_zero, List.set_cons_succ])
                        refine wpAnyH_take (i := 8) (v := ?_) rfl (by kernel_rfl) (by kernel_rfl) (by kernel_rfl) (fun _ _ _ h => h) (Or.inl ⟨by rfl, ?_⟩) (by assumption) ?_
                        rotate_left
                        · (intro w hSw; (try dsimp only at hSw); go_simp; try with_reducible rfl)
                        (try simp only [Act.put, List.setIfInBounds_toArray, List.set_cons_zero, List.set_cons_succ])
                        refine wpAnyH_take (i := 9) (v := ?_) rfl (by kernel_rfl) (by kernel_rfl) (by kernel_rfl) (fun _ _ _ h => h) (Or.inl ⟨by rfl, ?_⟩) (by assumption) ?_
                        rotate_left
                        · (intro w hSw; (try dsimp only at hSw); go_simp; try with_reducible rfl)
                        (try simp only [Act.put, List.setIfInBounds_toArray, List.set_cons_zero, List.set_cons_succ])
                        refine wpAnyH_done (by kernel_rfl) ?_ _
                        refine tail_run rfl rfl ?_
                        clear hH3
                        go_simp
                        go_wp2_with fail
                        go_meet
                        exact ⟨p7, q7, HFIN.out _ _ _ HS9.out⟩
                      exact AllReadyH.nil
                    exact AllReadyH.nil
                  refine AllReadyH.cons rfl (fun K hK => ?_) ?_
                  · go_simp
                    refine hK.out _ _ ?_ (fun hH4 => ?_)
                    · (try dsimp only); (first | go_keep | (refine ⟨?_, ?_, ?_⟩ <;> assumption))
                    clear hK K hHeld
                    (try simp only [Act.put, List.setIfInBounds_toArray, List.set_cons_zero, List.set_cons_succ])
                    refine wpAnyH_ready (rs := [4]) (by kernel_rfl) (by simp) ?_
                    refine AllReadyH.cons rfl (fun K hK => ?_) ?_
                    · (go_simp; go_wp2_with (go_at_call 34; first | (refine (HWC.out _ _ HS7.out.drew).mono ?_; rintro e w6 ⟨p6, q6, rfl, hs6⟩; have HS8 := Lib.hid hs6; have k1 := (rel_x HS8.out.tail).1.2.1; have k2 := cell_of_block (rel_h HS8.out.tail) 0 (v := .int .i64 e1) rfl; have k3 := cell_of_block (rel_h HS8.out.tail) 1 (v := .int .i64 e2) rfl; have m1 : (w6.alloc (.cells #[.int .i64 e1, .int .i64 e2] 76)).cell? ⟨X, 1, none⟩ = some (.slice pa na qa) := Lib.cell?_alloc_some _ k1; have m2 : (w6.alloc (.cells #[.int .i64 e1, .int .i64 e2] 76)).cell? ⟨H, 0, none⟩ = some (.int .i64 e1) := Lib.cell?_alloc_some _ k2; have m3 : (w6.alloc (.cells #[.int .i64 e1, .int .i64 e2] 76)).cell? ⟨H, 1, none⟩ = some (.int .i64 e2) := Lib.cell?_alloc_some _ k3; clear hs6) | (refine (HWC.out _ _ HSB.out.drew).mono ?_; rintro e w6 ⟨p6, q6, rfl, hs6⟩; have HS8 := Lib.hid hs6; have k1 := (rel_x HS8.out.tail).1.2.1; have k2 := cell_of_block (rel_h2 HS8.out.tail) 0 (v := .int .i64 e1) rfl; have k3 := cell_of_block (rel_h2 HS8.out.tail) 1 (v := .int .i64 e2) rfl; clear hs6)))
                      refine hK.out _ _ ?_ (fun hH5 => ?_)
                      · (try dsimp only); (first | go_keep | (refine ⟨?_, ?_, ?_⟩ <;> assumption))
                      clear hK K hH4
                      (try simp only [Act.put, List.setIfInBounds_toArray, List.set_cons_zero, List.set_cons_succ])
                      refine wpAnyH_ready (rs := [7]) (by kernel_rfl) (by simp) ?_
                      refine AllReadyH.cons rfl (fun K hK => ?_) ?_
                      · (first | (refine step_append_sep (w := w) (e := 76) (B := w6.heap.size) rfl (.tmp 82) (.tmp 84) 69 rfl ih _ 2 16 Tryd.underlying69 IH.out rfl (by decide) (.slice p6 (outL a1 e1).length q6) (outL a1 e1).length (wCells (outL a1 e1)) rfl rfl heap_alloc_self rfl (ent_one12 e1 e2) (HS8.out.forget (.cells #[.int .i64 e1, .int .i64 e2] 76)) (by have h9 := HLA.out; unfold maxLen; omega) (by have h9 := HLA.out; omega) ?_; intro p7 q7 w7 hs7; have HS9 := Lib.hid hs7; clear hs7) | (refine step_append_sep (w := w) (e := 76) (B := V5.heap.size) rfl (.tmp 82) (.tmp 84) 69 rfl ih _ 2 16 Tryd.underlying69 IH.out rfl (by decide) (.slice p6 (outL a1 e1).length q6) (outL a1 e1).length (wCells (outL a1 e1)) rfl rfl (rel_h HS8.out.tail) rfl (ent_one12 e1 e2) HS8.out (by have h9 := HLA.out; unfold maxLen; omega) (by have h9 := HLA.out; omega) ?_; intro p7 q7 w7 hs7; have HS9 := Lib.hid (rel_drop1 hs7); clear hs7)); have n1 := (rel_x HS9.out.tail).1.2.1; have n2 := cell_of_block (rel_h HS9.out.tail) 0 (v := .int .i64 e1) rfl; have n3 := cell_of_block (rel_h HS9.out.tail) 1 (v := .int .i64 e2) rfl; have nf := (rel_x HS9.out.tail).2.1
                        refine hK.out _ _ ?_ (fun hH6 => ?_)
                        · (try dsimp only); (first | go_keep | (refine ⟨?_, ?_, ?_⟩ <;> assumption))
                        clear hK K hH5
                        (try simp only [Act.put, List.setIfInBounds_toArray, List.set_cons_zero, List.set_cons_succ])
                        refine wpAnyH_take (i := 8) (v := ?_) rfl (by kernel_rfl) (by kernel_rfl) (by kernel_rfl) (fun _ _ _ h => h) (Or.inl ⟨by rfl, ?_⟩) (by assumption) ?_
                        rotate_left
                        · (intro w hSw; (try dsimp only at hSw); go_simp; try with_reducible rfl)
                        (try simp only [Act.put, List.setIfInBounds_toArray, List.set_cons_zero, List.set_cons_succ])
                        refine wpAnyH_take (i := 9) (v := ?_) rfl (by kernel_rfl) (by kernel_rfl) (by kernel_rfl) (fun _ _ _ h => h) (Or.inl ⟨by rfl, ?_⟩) (by assumption) ?_
                        rotate_left
                        · (intro w hSw; (try dsimp only at hSw); go_simp; try with_reducible rfl)
                        (try simp only [Act.put, List.setIfInBounds_toArray, List.set_cons_zero, List.set_cons_succ])
                        refine wpAnyH_done (by kernel_rfl) ?_ _
                        refine tail_run rfl rfl ?_
                        clear hH6
                        go_simp
                        go_wp2_with fail
                        go_meet
                        exact ⟨p7, q7, HFIN.out _ _ _ HS9.out⟩
                      exact AllReadyH.nil
                    exact AllReadyH.nil
                  exact AllReadyH.nil
                case rest =>
                obtain ⟨p7, q7, hcut⟩ := hcut
                have HS10 := Lib.hid hcut
                obtain ⟨V6, hV6⟩ : ∃ V : World, V = wc := ⟨_, rfl⟩
                rw [← hV6] at HS10 ⊢
                clear hV6 hcut HS7 HSB HWC HFIN ka0 ka1 ka2 x1 y1 y2 z0 z1 HMA
                have z0 := cell_of_block (rel_h HS10.out) 0 (v := .int .i64 e1) rfl
                have HS11 := Lib.hid (rel_front HS10.out)
                have HSTEP := HR.out.step HFRE.out.symm (na2 := (outL a1 e1).length + 1) (nc2 := z.length) (pa2 := p7) (qa2 := q7) (pc2 := pt) (qc2 := qt) (vs2 := (.slice p7 ((outL a1 e1).length + 1) q7, putL a1 e1 e2) :: (.slice pt z.length qt, z) :: vs1) (by unfold putL; rw [List.length_append]; rfl) rfl (by simp) (by simp) (fun y hy => by simp [hy])
                rw [HR.out.eno] at HSTEP
                have HSTEP := Lib.hid HSTEP
                have HB1 : ou1.length + 1 ≤ maxLen := by have h9 := HLO.out; unfold maxLen; omega
                have HB2 : (ou1.length + 1) * 8 ≤ 140737488355328 := by have h9 := HLO.out; omega
                go_wp2_with (at_builtin; (refine wpList_append_sep (w := w) (cs := #[.int .i64 e1]) (e := 3) rfl (.tmp 87) (.tmp 90) 37 rfl ii _ 1 8 Tryd.underlying37 II.out rfl (by decide) (.slice po1 no1 qo1) ou1.length (intCells ou1) rfl rfl rfl rfl (by simp [Value.oneCell']) HS11.out HB1 HB2 ?_; intro p8 q8 w8 hs8; have HS12 := Lib.hid (rel_drop (rel_back hs8)); clear hs8))
                go_roundg z.length
                case measure => have h9 := HNC.out; omega
                case rel => exact ⟨p7, _, q7, pt, _, qt, p8, _, q8, ou1 ++ [e1], putL a1 e1 e2, z, _, Nat.le_refl _, rfl, HSTEP.out, HS12.out⟩
      case rest =>
      obtain ⟨pa, na, qa, pc, nc, qc, po1, no1, qo1, ou1, vs1, rfl, HRO, HS5⟩ := hcut
      have HRO : Hid (RelOut x h i ou vs pa na qa pc nc qc no1 ou1 vs1) := HRO
      have HS5 : Hid (Sep w wc (xParts X b x.name (.slice pa na qa) (.slice pc nc qc) (some ⟨g, 0, none⟩) N q tv (.slice po1 no1 qo1) (.slice ps ns qs) ou1 tv' vs1 L)) := HS5
      clear HRI HS4 HM1 HM2 HNH HNQ
      obtain ⟨V2, hV2⟩ : ∃ V : World, V = wc := ⟨_, rfl⟩
      rw [← hV2] at HS5 ⊢
      clear hV2
      obtain ⟨⟨x0, x1, x2⟩, y1, y2⟩ := rel_x HS5.out
      have hna : na ≤ 2002 := by have h9 := HRO.out.la; omega
      have hnc : nc ≤ 2002 := by have h9 := HRO.out.la; omega
      have HOU1 : Hid (ou1 = relHas t h (i + 1)) := by
        have h1 : ou = relHas t h i := HOU
        show ou1 = _
        rw [relHas_next HX.out, ← h1]
        exact HRO.out.out
      have HVS1 : Hid (∀ y, y ∈ tHelds tv ∨ y ∈ tHelds tv' → y ∈ vs1) := fun y hy => HRO.out.sub y (HVS.out y hy)
      have HNS : Hid (ns = tv'.length) := HNS
      have HST : Hid (tv'.map Prod.fst = relStay t h i) := HST
      by_cases hf : 0 < na + nc
      · have hfi : (0 : Int) < (na : Int) + (nc : Int) := by omega
        have HFT : Hid (relStay t h (i + 1) = relStay t h i ++ [(relT x h).2]) := by
          show _ = _
          rw [relStay_next HX.out, if_pos]
          unfold fullT
          have h1 := HRO.out.ena
          have h2 := HRO.out.enc
          cases e1 : (relT x h).2.has with
          | cons y z => rfl
          | nil =>
            cases e2 : (relT x h).2.q with
            | cons y z => rfl
            | nil => rw [e1] at h1; rw [e2] at h2; simp only [List.length_nil] at h1 h2; omega
        have HLS : Hid (tv'.length ≤ 300) := by
          have h1 : (tv'.map Prod.fst).length = _ := congrArg List.length HST.out
          rw [List.length_map] at h1
          have h2 : (relStay t h i).length ≤ (t.take i).length := by unfold relStay; exact Nat.le_trans (List.length_filter_le _ _) (by rw [List.length_map]; exact Nat.le_refl _)
          rw [List.length_take] at h2
          show tv'.length ≤ 300
          omega
        have HS6 := Lib.hid (rel_stay HS5.out)
        clear hf
        go_upto_region 15 with fail
        go_wp2_with (at_builtin; refine wpList_append_sep (w := w) (cs := #[.string x.name, .slice pa na qa, .slice pc nc qc]) (e := 71) rfl (.tmp 100) (.tmp 102) 26 rfl it _ 3 64 Tryd.underlying26 IT.out rfl (by decide) (.slice ps ns qs) tv'.length (tCells tv') rfl rfl rfl rfl (by intro u hu; have hu : u ∈ [Value.string x.name, .slice pa na qa, .slice pc nc qc] := hu; simp only [List.mem_cons, List.not_mem_nil, or_false] at hu; rcases hu with rfl | rfl | rfl <;> rfl) HS6.out (by have h9 := HLS.out; unfold maxLen; omega) (by have h9 := HLS.out; omega) ?_; intro p9 q9 w9 hs9; have HS7 := Lib.hid (rel_stay' (y := ⟨x.name, (relT x h).2.has, (relT x h).2.q⟩) rfl hs9); clear hs9)
        have HFACT : ∃ T : RTP, tv'.length + 1 = T.length ∧ T.map Prod.fst = relStay t h (i + 1) ∧ (∀ y, y ∈ tHelds tv ∨ y ∈ tHelds T → y ∈ vs1) ∧ Sep w w9 (relParts b (some ⟨g, 0, none⟩) N q tv (.slice po1 no1 qo1) (.slice p9 (tv'.length + 1) q9) ou1 T vs1 L) := by
          refine ⟨tv' ++ [(⟨x.name, (relT x h).2.has, (relT x h).2.q⟩, .slice pa na qa, .slice pc nc qc)], by rw [List.length_append]; rfl, ?_, ?_, HS7.out⟩
          · rw [List.map_append, HST.out, HFT.out]
            congr 1
            show [_] = [_]
            have h1 := relT_name x h
            rw [← h1]
          · rintro y (hy | hy)
            · exact HVS1.out y (.inl hy)
            · rw [tHelds_app] at hy
              rcases List.mem_append.1 hy with hy | hy
              · exact HVS1.out y (.inr hy)
              · have hy : y ∈ [((.slice pa na qa : Value), (relT x h).2.has), (.slice pc nc qc, (relT x h).2.q)] := hy
                simp only [List.mem_cons, List.not_mem_nil, or_false] at hy
                rcases hy with rfl | rfl
                · exact HRO.out.ma
                · exact HRO.out.mc
        obtain ⟨T, ht1, ht2, ht3, ht4⟩ := HFACT
        have HT1 := Lib.hid ht1
        have HT2 := Lib.hid ht2
        have HT3 := Lib.hid ht3
        have HT4 := Lib.hid ht4
        clear ht1 ht2 ht3 ht4
        go_roundw
        case rel => exact ⟨i + 1, po1, no1, qo1, ou1, p9, _, q9, T, vs1, by omega, by go_num, rfl, rfl, HRO.out.eno, HT1.out, HOU1.out, HT2.out, HT3.out, HT4.out⟩
        case measure => simp [intOf]; omega
      · have hn1 : na = 0 := by omega
        have hn2 : nc = 0 := by omega
        subst hn1 hn2
        have HFT : Hid (relStay t h (i + 1) = relStay t h i) := by
          show _ = _
          rw [relStay_next HX.out, if_neg, List.append_nil]
          unfold fullT
          rw [List.eq_nil_of_length_eq_zero HRO.out.ena.symm, List.eq_nil_of_length_eq_zero HRO.out.enc.symm]
          decide
        have HS6 := Lib.hid HS5.out.tail
        go_wp2_with fail
        go_roundw
        case rel => exact ⟨i + 1, po1, no1, qo1, ou1, ps, ns, qs, tv', vs1, by omega, by go_num, rfl, rfl, HRO.out.eno, HNS.out, HOU1.out, (by rw [HST.out, HFT.out] : List.map Prod.fst tv' = relStay t h (i + 1)), HVS1.out, HS6.out⟩
        case measure => simp [intOf]; omega
    · have hiN : i = N := by omega
      have HIN := Lib.hid hiN
      have hno : no = ou.length := HNO
      have hns : ns = tv'.length := HNS
      have hst : tv'.map Prod.fst = relStay t h i := HST
      have hou : ou = relHas t h i := HOU
      have e1 : ou = (relM t h).1 := by rw [hou, hiN, HN.out]; unfold relHas relM; rw [List.take_length]
      have e2 : tv'.map Prod.fst = (relM t h).2 := by rw [hst, hiN, HN.out]; unfold relStay relM; rw [List.take_length]
      have HEND := Lib.hid (rel_end HS2.out hns e2 (fun y hy => HVS.out y (.inr hy)))
      have HE1 := Lib.hid e1
      have HNO := Lib.hid hno
      clear hiN hno hns hst hou e1 e2
      go_wp2_with fail
      go_ret
      refine ⟨po, qo, ?_, ?_⟩
      · rw [← HE1.out, ← HNO.out]; rfl
      · have h1 := HEND.out
        rw [← HE1.out, ← HNO.out]
        rw [← HNO.out] at h1
        exact h1

end Go.Proofs.YtipfjjcokajjjaaDoor
