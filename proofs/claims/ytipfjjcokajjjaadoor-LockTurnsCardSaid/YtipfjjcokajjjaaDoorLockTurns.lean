/-
  What is proved here: the statement LockTurns: whoever wait for a thing alone get it one behind the other, in the order in which they came; for every input.
  No condition beyond the row's own (the table of the modes is as the program lays it).
-/
import Derived.Test.YtipfjjcokajjjaaDoorLkY
import Derived.Test.YtipfjjcokajjjaaDoorOpen
import Derived.Test.YtipfjjcokajjjaaDoorTie
import Derived.Test.YtipfjjcokajjjaaDoorCards
import Derived.LaidMore
import Derived.Lay
import Derived.SevenTiedAt
import Derived.Stop.Joined
import Derived.Deep.LoopGhost
import Derived.Deep.DeepCutAuto
namespace Go.Proofs.YtipfjjcokajjjaaDoor.lockTurns
open Go.ChangeShapes Go.WideShapes Go.ChangeAt Go.RowKit Go.Proofs.YtipfjjcokajjjaaDoor
set_option linter.unusedVariables false
set_option linter.unusedSimpArgs false

/-- Bytes as an argument. -/
def BytesAt (w : World) (p : Option Addr) (l : List Int) : Prop := ∀ k x, l[k]? = some x → ∃ b o, p = some ⟨b, o, none⟩ ∧ b < w.heap.size ∧ 0 ≤ x ∧ x ≤ 255 ∧ w.cell? ⟨b, o + k, none⟩ = some (.int .u8 x)

set_option maxRecDepth 100000 in
theorem open_bytes_at {H : Type} {enc : TypeId × Value → H} {W : World} {sp : Nat → Bool} {held : Bool} {fuel : Nat} {v : Value} {x : DataW H × List MemPlace} (h : DataW.trod enc Tryd.prog W 0 sp held fuel 47 [v] = some x) :
    ∃ p l q, v = .slice p (List.length l) q ∧ ((List.length l : Nat) : Int) ≤ 9223372036854775807 ∧ BytesAt W p l := by
  rcases Go.Deep.open_slice Tryd.underlying47 h with ⟨hcs, _⟩ | ⟨a, len, cap, m, n, D, Pl, hcs, _, hl, hm, hmm, _, hx⟩
  · simp only [List.cons.injEq, and_true] at hcs
    subst hcs
    exact ⟨none, [], 0, rfl, by simp, by intro k x hx; simp at hx⟩
  · simp only [List.cons.injEq, and_true] at hcs
    subst hcs
    have hlm : len ≤ m := by rw [hmm]; split <;> omega
    have hC : Tryd.prog.cellsOf 5 = 1 := by kernel_rfl
    have hread : ∀ i, i < len → ∃ y : Int, (0 ≤ y ∧ y ≤ 255) ∧ W.cell? (a.add i) = some (.int .u8 y) := by
      intro i hi
      obtain ⟨cs', h1, h2⟩ := hx i (by omega)
      rw [hC] at h1
      obtain ⟨_, hlen, hat⟩ := World.cells?_some h1
      obtain ⟨y, he, _, wf⟩ := DataW.trod_int Tryd.underlying5 h2
      subst he
      have h3 := hat 0 (by omega)
      rw [Go.Deep.add_add, Nat.mul_one] at h3
      have hb := bounds_u8 wf
      exact ⟨y, ⟨by omega, by omega⟩, by simpa using h3⟩
    obtain ⟨l, hl1, hl2⟩ := list_of len hread
    subst hl1
    refine ⟨some a, l, cap, rfl, ?_, ?_⟩
    · simp [maxLen] at hm; omega
    · intro k x hkx
      have h0 : 0 < l.length := by have := (List.getElem?_eq_some_iff.1 hkx).1; omega
      have hz := (hl2 0 _ (List.getElem?_eq_getElem h0)).2
      rw [add_zero'] at hz
      obtain ⟨b, o, rfl, hb⟩ := addr_plain hz
      exact ⟨b, o, rfl, hb, (hl2 k x hkx).1.1, (hl2 k x hkx).1.2, by rw [← add_at]; exact (hl2 k x hkx).2⟩
theorem open_bytes {H : Type} {enc : TypeId × Value → H} {W : World} {sp : Nat → Bool} {v : Value} {d : DataW H} {ps : List MemPlace} (hv : ∃ a len cap, v = .slice a len cap) (h : DataW.Trod enc Tryd.prog W 0 sp true 47 v d ps) :
    ∃ p l q, v = .slice p (List.length l) q ∧ ((List.length l : Nat) : Int) ≤ 9223372036854775807 ∧ BytesAt W p l := by
  obtain ⟨a, len, cap, rfl⟩ := hv
  obtain ⟨fuel, hf⟩ := h
  exact open_bytes_at hf

/-- The table with the one thing. -/
def one (has q : HM) : Tab := [⟨nmA, has, q⟩]
theorem one_take {has q : HM} {h want : Int} (hh : 1 ≤ h ∧ h ≤ 1000) (hw : want = 1 ∨ want = 2) (hm : modeL has h < want) (hq : modeL q h ≤ 0) :
    takeM (one has q) h nmA want = (if gets ⟨nmA, has, q⟩ h want then 0 else 120, [takeT ⟨nmA, has, q⟩ h want]) := by
  have hg : getT (one has q) nmA = some ⟨nmA, has, q⟩ := by simp [getT, one]
  have hl : lo (one has q) nmA = [] := by unfold lo one; rw [List.filter_cons_of_neg (by simp only [decide_eq_true_eq]; exact ltB_irrefl _)]; rfl
  have hi : hi (one has q) nmA = [] := by unfold hi one; rw [List.filter_cons_of_neg (by simp only [decide_eq_true_eq]; exact ltB_irrefl _)]; rfl
  have hwt : waitsM (one has q) h = none := by unfold waitsM one; simp; exact hq
  have hs : nmA.size = 1 := rfl
  unfold takeM
  rw [if_neg (by rw [hs]; omega), hwt, if_neg (by simp), if_neg (by unfold modeM; rw [hg]; simp only; omega), if_neg (by rw [hg]; simp), hg, hl, hi]
  rfl
theorem none_take {h want : Int} (hh : 1 ≤ h ∧ h ≤ 1000) (hw : want = 1 ∨ want = 2) : takeM [] h nmA want = (0, one [(h, want)] []) := by
  have hs : nmA.size = 1 := rfl
  unfold takeM
  rw [if_neg (by rw [hs]; omega)]
  have h1 : waitsM [] h = none := rfl
  have h2 : modeM [] h nmA = 0 := rfl
  rw [h1, h2, if_neg (by simp), if_neg (by omega), if_neg (by simp)]
  have h3 : gets ((getT [] nmA).getD ⟨nmA, [], []⟩) h want = true := rfl
  rw [if_pos h3]
  unfold takeT
  rw [if_pos h3]
  rfl
theorem one_rel (has q : HM) (h : Int) (hx : mineB ⟨nmA, has, q⟩ h = true) : relM (one has q) h = ((grant (outL has h) (outL q h)).1, (one (grant (outL has h) (outL q h)).2.1 (grant (outL has h) (outL q h)).2.2).filter fullT) := by
  unfold relM one
  simp [relT, hx]


def Q (l : List Int) : HM := l.map (fun x => (x, 2))
def Few (l : List Int) : Prop := l.Nodup ∧ ∀ x ∈ l, 1 ≤ x ∧ x ≤ 20
theorem q_no {l : List Int} {h : Int} (hn : h ∉ l) : ∀ y ∈ Q l, y.1 ≠ h := by
  intro y hy e
  obtain ⟨x, hx, rfl⟩ := List.mem_map.1 hy
  exact hn (by simp only at e; rw [← e]; exact hx)
theorem q_modes {l : List Int} (hf : Few l) : Modes (Q l) := by
  refine ⟨?_, fun y hy => ?_⟩
  · unfold Q; rw [List.map_map]
    have : (Prod.fst ∘ fun x : Int => (x, (2 : Int))) = id := rfl
    rw [this, List.map_id]; exact hf.1
  · obtain ⟨x, hx, rfl⟩ := List.mem_map.1 hy
    have := hf.2 x hx
    exact ⟨this.1, by simp only; omega, .inr rfl⟩
theorem t_new {l : List Int} {h : Int} (h1 : 1 ≤ h) (h2 : h ≤ 20) (hn : h ∉ l) : takeM (one [(1000, 2)] (Q l)) h nmA 2 = (120, one [(1000, 2)] (Q (l ++ [h]))) := by
  have hq : modeL (Q l) h = 0 := modeL_not (q_no hn)
  have hm : modeL [((1000 : Int), (2 : Int))] h = 0 := modeL_not (by simp; omega)
  rw [one_take (by omega) (.inr rfl) (by rw [hm]; decide) (by omega)]
  have hg : gets ⟨nmA, [(1000, 2)], Q l⟩ h 2 = false := by
    unfold gets
    rw [Bool.and_eq_false_iff]
    left
    cases hf : freeL [((1000 : Int), (2 : Int))] h 2 with
    | false => rfl
    | true => exact absurd rfl (free_iff.1 hf (1000, 2) (by simp) (by simp only; omega)).2
  have ht : takeT ⟨nmA, [(1000, 2)], Q l⟩ h 2 = ⟨nmA, [(1000, 2)], Q (l ++ [h])⟩ := by
    unfold takeT atQ
    rw [if_neg (by rw [hg]; simp), if_neg (by simp only; omega)]
    show (⟨nmA, [(1000, 2)], insL (Q l) (Q l).length (h, 2)⟩ : Th) = _
    unfold insL
    rw [List.take_length, List.drop_length]
    unfold Q
    rw [List.map_append]
    rfl
  rw [hg, ht]
  rfl
theorem t_old {l : List Int} {h : Int} (h1 : 1 ≤ h) (h2 : h ≤ 20) (hf : Few l) (hn : h ∈ l) : takeM (one [(1000, 2)] (Q l)) h nmA 2 = (161, one [(1000, 2)] (Q l)) := by
  have hq : 0 < modeL (Q l) h := (modeL_pos (q_modes hf)).2 ⟨(h, 2), List.mem_map.2 ⟨h, hn, rfl⟩, rfl⟩
  have hs : nmA.size = 1 := rfl
  have hw : (waitsM (one [(1000, 2)] (Q l)) h).isSome = true := by
    unfold waitsM one
    rw [List.find?_cons_of_pos (by simpa using hq)]
    rfl
  unfold takeM
  rw [if_neg (by rw [hs]; omega), if_pos hw]
theorem grant_one {l : List Int} {x : Int} (hn : x ∉ l) : grant [(x, 2)] (Q l) = ([], [(x, 2)], Q l) := by
  cases l with
  | nil => rfl
  | cons y l =>
    show grant [(x, 2)] ((y, 2) :: Q l) = _
    unfold grant
    have hf : freeL [(x, (2 : Int))] y 2 = false := by
      cases hf : freeL [(x, (2 : Int))] y 2 with
      | false => rfl
      | true => exact absurd rfl (free_iff.1 hf (x, 2) (by simp) (by simp at hn; exact hn.1)).2
    rw [if_neg (by rw [hf]; simp)]
    rfl
theorem t_rel {l : List Int} {at' x : Int} (hn : at' ∉ x :: l) (hx : x ∉ l) : relM (one [(at', 2)] (Q (x :: l))) at' = ([x], one [(x, 2)] (Q l)) := by
  have hmine : mineB ⟨nmA, [(at', 2)], Q (x :: l)⟩ at' = true := by simp [mineB, modeL]
  rw [one_rel _ _ _ hmine]
  have h0 : outL [(at', (2 : Int))] at' = [] := by simp [outL]
  rw [h0, show outL (Q (x :: l)) at' = Q (x :: l) from out_self (q_no hn)]
  have hg : grant [] (Q (x :: l)) = ([x], [(x, 2)], Q l) := by
    show grant [] ((x, 2) :: Q l) = _
    unfold grant
    rw [if_pos (show freeL [] x 2 = true from rfl)]
    have hp : putL [] x 2 = [(x, 2)] := rfl
    simp only [hp, grant_one hx]
  rw [hg]
  simp [one, fullT]
theorem t_end (at' : Int) : relM (one [(at', 2)] []) at' = ([], []) := by
  have hmine : mineB ⟨nmA, [(at', 2)], []⟩ at' = true := by simp [mineB, modeL]
  rw [one_rel _ _ _ hmine]
  have h0 : outL [(at', (2 : Int))] at' = [] := by simp [outL]
  rw [h0]
  rfl
theorem t_mode (x : Int) (l : List Int) : modeM (one [(x, 2)] (Q l)) x nmA = 2 := by
  unfold modeM
  have : getT (one [(x, 2)] (Q l)) nmA = some ⟨nmA, [(x, 2)], Q l⟩ := by simp [getT, one]
  rw [this]
  simp [modeL]
theorem few_len {l : List Int} (hf : Few l) : l.length ≤ 21 := by
  have h1 : (l.map Int.toNat).Nodup := by
    refine List.pairwise_map.2 (List.Pairwise.imp_of_mem ?_ hf.1)
    intro a b ha hb hne e
    have := hf.2 a ha
    have := hf.2 b hb
    omega
  have h2 := nodup_len 21 _ h1 (fun a ha => by
    obtain ⟨x, hx, rfl⟩ := List.mem_map.1 ha
    have := hf.2 x hx
    omega)
  rwa [List.length_map] at h2
theorem few_snoc {l : List Int} (hf : Few l) {h : Int} (hn : h ∉ l) (h1 : 1 ≤ h) (h2 : h ≤ 20) : Few (l ++ [h]) := by
  refine ⟨List.nodup_append.2 ⟨hf.1, by simp, fun a ha b hb => ?_⟩, fun x hx => ?_⟩
  · simp at hb; subst hb; exact fun e => hn (e ▸ ha)
  · rcases List.mem_append.1 hx with q | q
    · exact hf.2 x q
    · simp at q; subst q; exact ⟨h1, h2⟩

/-- Who came already, as the law keeps it. -/
def inC (l : List Int) : Array Value := ((List.range 20).map (fun k : Nat => Value.bool (decide (((k : Int) + 1) ∈ l)))).toArray
theorem inC_at {l : List Int} {k : Nat} (hk : k < 20) : (inC l)[k]? = some (.bool (decide (((k : Int) + 1) ∈ l))) := by
  unfold inC
  simp [hk]
theorem inC_set {l : List Int} {k : Nat} (hk : k < 20) : (inC l).setIfInBounds k (.bool true) = inC (l ++ [(k : Int) + 1]) := by
  apply Array.ext'
  apply List.ext_getElem?
  intro j
  unfold inC
  simp only [Array.toList_setIfInBounds]
  rw [List.getElem?_set]
  by_cases hj : k = j
  · subst hj
    simp [hk]
  · rw [if_neg hj]
    by_cases hj2 : j < 20
    · simp only [List.getElem?_map, List.getElem?_range hj2, Option.map_some]
      congr 2
      rw [Bool.eq_iff_iff]
      simp only [decide_eq_true_eq, List.mem_append, List.mem_singleton]
      constructor
      · exact .inl
      · rintro (q | q)
        · exact q
        · exfalso; omega
    · rw [List.getElem?_eq_none (by simp; omega), List.getElem?_eq_none (by simp; omega)]

set_option maxRecDepth 100000 in
set_option maxHeartbeats 8000000 in
theorem walk (p : Option Addr) (ord : List Int) (q : Nat) (w : World) (hl : ((ord.length : Nat) : Int) ≤ 9223372036854775807) (hst : BytesAt w p ord) (htog : Tog w) :
    Calls Tryd.prog 8 #[.slice p ord.length q] w fun e w' => e = .returned (.bool true) ∧ Only [] w w' := by
  obtain ⟨ii, II⟩ := info_of Tryd.infoInt
  have HT := Lib.hid htog
  have HN := Lib.hid (Sep.nil w)
  have HST := Lib.hid hst
  clear htog hst
  go_enter Tryd.func8, Tryd.ntmps8
  go_wp2_with (go_at_call 10; refine (new_any HN.out).mono ?_; rintro e w1 ⟨b, rfl, hs1⟩; have HS1 := Lib.hid hs1; clear hs1)
  have hc := take_any good_nil HT.out 1000 nmA 2 HS1.out
  have hg0 := takeM_good good_nil 1000 nmA 2
  rw [none_take (by omega) (.inr rfl)] at hc hg0
  have HC := Lib.hid hc
  have HG0 := Lib.hid hg0
  clear hc hg0
  refine (show Calls Tryd.prog _ #[_, _, .string ⟨#[97]⟩, _] _ _ from HC.out).mono ?_
  rintro e w2 ⟨rfl, hs2⟩
  have hs3 := hs2.row_nil 3 1
  have hs4 := hs3.alloc (inC []) 50
  have HS2 := Lib.hid hs2
  have HS4 := Lib.hid (hs4.dn2)
  clear hs2 hs3 hs4 HC HS1
  obtain ⟨g, hgb⟩ : ∃ g, g = w2.heap.size := ⟨_, rfl⟩
  rw [← hgb] at HS4
  have HGB := Lib.hid hgb
  obtain ⟨w3, hw3⟩ : ∃ w3, w3 = w2.alloc (.cells (inC []) 50) := ⟨_, rfl⟩
  rw [← hw3] at HS4
  have HW3 := Lib.hid hw3
  clear hgb hw3 HS2
  go_upto_region 6 with fail
  rw [← HGB.out, show (w2.alloc (.cells #[.bool false, .bool false, .bool false, .bool false, .bool false, .bool false, .bool false, .bool false, .bool false, .bool false, .bool false, .bool false, .bool false, .bool false, .bool false, .bool false, .bool false, .bool false, .bool false, .bool false] 50)) = w3 from HW3.out.symm]
  go_wp2_with fail
  go_loopg [4, 6, 7, 8] ord.length (fun gg s4 s6 _ _ wr => ∃ (i : Nat) (l : List Int) (pl : Option Addr) (ql : Nat), i ≤ ord.length ∧ ord.length - i ≤ gg ∧ s4 = .slice pl l.length ql ∧ s6 = .int .i64 i ∧ l.length ≤ 21 ∧ Aside (Few l) ∧ Aside (Good (one [(1000, 2)] (Q l))) ∧ Aside (Sep w wr [tabRes b (one [(1000, 2)] (Q l)), blkRes g (.cells (inC l) 50 (0, 0)), rowRes 3 1 (.slice pl l.length ql) l.length (intCells l)]))
  case atStart => exact ⟨0, [], none, 0, Nat.zero_le _, by omega, rfl, rfl, by simp, ⟨List.nodup_nil, by simp⟩, HG0.out, HS4.out.up2.up2⟩
  case round =>
    obtain ⟨i, l, pl, ql, hi, hgg, rfl, rfl, hll, HF, HG, HS⟩ := hrel
    have hfe : Few l := HF
    have hgd : Good (one [(1000, 2)] (Q l)) := HG
    have hsw : Sep w wr [tabRes b (one [(1000, 2)] (Q l)), blkRes g (.cells (inC l) 50 (0, 0)), rowRes 3 1 (.slice pl l.length ql) l.length (intCells l)] := HS
    clear HS4 HG0
    by_cases hlt : i < ord.length ∧ i < 60
    · obtain ⟨x, hx⟩ : ∃ x, ord[i]? = some x := ⟨_, List.getElem?_eq_getElem hlt.1⟩
      obtain ⟨sb, so, rfl, hb, hx0, hx1, u0⟩ := HST.out i x hx
      obtain ⟨x', rfl⟩ : ∃ x' : Nat, x = x' := ⟨x.toNat, by omega⟩
      have c0 := (hsw.old.cell (p := ⟨sb, so + i, none⟩) hb (by simp)).trans u0
      have hl1 : (i : Int) < (ord.length : Int) := by omega
      have hl2 : (i : Int) < 60 := by omega
      obtain ⟨k, hk⟩ : ∃ k, k = x' % 20 := ⟨_, rfl⟩
      have hk20 : k < 20 := by omega
      have hkk : ((x' : Int) % 20) = (k : Int) := by omega
      have hcell := cell_of_block hsw.up1.blk k (inC_at (l := l) hk20)
      have hfree := free_of_block hsw.up1.blk k
      have HKK := Lib.hid hkk
      clear hx u0 hb hk hkk
      by_cases hin : ((k : Int) + 1) ∈ l
      · have hc := take_any hgd HT.out ((k : Int) + 1) nmA 2 hsw
        rw [t_old (by omega) (by omega) hfe hin, show (k : Int) + 1 = 1 + (k : Int) by omega] at hc
        rw [decide_eq_true hin] at hcell
        have HC := Lib.hid hc
        have HB0 := Lib.hid (fun (V : World) (R : Res) (l' : List Res) (h : Sep w V (R :: blkRes g (.cells (inC l) 50 (0, 0)) :: l')) => (cell_of_block h.up1.blk k (inC_at (l := l) hk20)))
        have HIN := Lib.hid hin
        clear hc hcell hfree hsw hin hgd HS
        go_upto_region 10 with fail
        rw [HKK.out]
        have hkz : (0 : Int) ≤ (k : Int) ∧ (k : Int) < 20 := by omega
        have hwz : IntKind.i64.wrap (1 + (k : Int)) = 1 + (k : Int) := IntWalk.i64_in _ (by omega)
        go_wp2_with fail
        refine (show Calls Tryd.prog _ #[_, _, .string ⟨#[97]⟩, _] _ _ from HC.out).mono ?_
        rintro e w4 ⟨rfl, hs4⟩
        have hcell := HB0.out _ _ _ hs4
        rw [decide_eq_true HIN.out] at hcell
        have HS4 := Lib.hid hs4
        clear hs4
        go_wp2_with fail
        go_roundg (ord.length - (i + 1))
        case measure => omega
        case rel => exact ⟨i + 1, l, pl, ql, by omega, by omega, rfl, by go_num, hll, HF, HG, HS4.out⟩
      · have hc := take_any hgd HT.out ((k : Int) + 1) nmA 2 hsw
        have hgn := takeM_good hgd ((k : Int) + 1) nmA 2
        rw [t_new (by omega) (by omega) hin] at hc hgn
        rw [show (k : Int) + 1 = 1 + (k : Int) by omega] at hc
        have HC := Lib.hid hc
        have HGN := Lib.hid hgn
        have HFN := Lib.hid (few_snoc hfe hin (by omega) (by omega))
        have HB0 := Lib.hid (fun (V : World) (R : Res) (l' : List Res) (h : Sep w V (R :: blkRes g (.cells (inC l) 50 (0, 0)) :: l')) => And.intro (cell_of_block h.up1.blk k (inC_at (l := l) hk20)) (free_of_block h.up1.blk k))
        have HIN := Lib.hid hin
        clear hc hgn hcell hfree hsw hin hgd HS
        go_upto_region 10 with fail
        rw [HKK.out]
        have hkz : (0 : Int) ≤ (k : Int) ∧ (k : Int) < 20 := by omega
        have hwz : IntKind.i64.wrap (1 + (k : Int)) = 1 + (k : Int) := IntWalk.i64_in _ (by omega)
        go_wp2_with fail
        refine (show Calls Tryd.prog _ #[_, _, .string ⟨#[97]⟩, _] _ _ from HC.out).mono ?_
        rintro e w4 ⟨rfl, hs4⟩
        obtain ⟨hcell, hfree⟩ := HB0.out _ _ _ hs4
        rw [decide_eq_false HIN.out] at hcell
        rw [show (1 : Int) + (k : Int) = (k : Int) + 1 by omega] at hs4
        have hs5 := (hs4.up1).store k (.bool true)
        rw [inC_set hk20] at hs5
        have HS5 := Lib.hid (show Sep w (w4.setCell ⟨g, k, none⟩ (.bool true)) [rowRes 3 1 (.slice pl l.length ql) l.length (intCells l), tabRes b (one [(1000, 2)] (Q (l ++ [(k : Int) + 1]))), blkRes g (.cells (inC (l ++ [(k : Int) + 1])) 50 (0, 0))] from ((hs5.up2).up2).up1)
        clear hs4 hs5
        go_upto_region 15 with fail
        generalize w4.setCell ⟨g, k, none⟩ (.bool true) = w5 at *
        go_wp2_with (at_builtin; go_must (refine wpList_append_sep (w := w) (e := 3) rfl (.tmp 63) (.tmp 66) 37 rfl ii _ 1 8 Tryd.underlying37 II.out rfl (by decide) (.slice pl l.length ql) l.length (intCells l) rfl rfl rfl rfl (by simp [Value.oneCell']) HS5.out (by unfold maxLen; omega) (by omega) ?_))
        intro p2 q2 w6 hs6
        have HS6 : Hid (Sep w w6 [tabRes b (one [(1000, 2)] (Q (l ++ [(k : Int) + 1]))), blkRes g (.cells (inC (l ++ [(k : Int) + 1])) 50 (0, 0)), rowRes 3 1 (.slice p2 (l ++ [(k : Int) + 1]).length q2) (l ++ [(k : Int) + 1]).length (intCells (l ++ [(k : Int) + 1]))]) := by
          have e5 : (l ++ [(k : Int) + 1]).length = l.length + 1 := by simp
          have e6 : intCells (l ++ [(k : Int) + 1]) = intCells l ++ (#[Value.int .i64 (1 + (k : Int))] : Array Value).toList := by simp [intCells, Int.add_comm]
          rw [e5, e6]
          exact Lib.hid (hs6.dn2)
        clear hs6 HS5
        go_wp2_with fail
        go_roundg (ord.length - (i + 1))
        case measure => omega
        case rel => exact ⟨i + 1, l ++ [(k : Int) + 1], p2, q2, by omega, by omega, by simp, by go_num, few_len HFN.out, HFN.out, HGN.out, HS6.out⟩
    · have HSW := Lib.hid hsw
      have HGD := Lib.hid hgd
      have HFE := Lib.hid hfe
      obtain ⟨wi, hwi⟩ : ∃ wi, wi = wr := ⟨_, rfl⟩
      subst hwi
      clear hsw hgd hfe HF HG HS
      have hw : (¬ (i : Int) < (ord.length : Int)) ∨ ((i : Int) < (ord.length : Int) ∧ ¬ (i : Int) < 60) := by omega
      have h1000 : (1000 : Int) ∉ l := fun hc => by have := HFE.out.2 _ hc; omega
      have H1000 := Lib.hid h1000
      obtain ⟨NL, hNL⟩ : ∃ NL, NL = l.length := ⟨_, rfl⟩
      rw [← hNL] at HSW hll ⊢
      have HNL := Lib.hid hNL
      clear h1000 hNL hlt
      rcases hw with hw | ⟨hw1, hw2⟩
      all_goals
        go_wp2_with fail
        go_loopg [9, 10, 11] NL (fun gg s9 s10 _ wr => ∃ (j : Nat) (at' : Int), j ≤ NL ∧ NL - j ≤ gg ∧ s10 = .int .i64 j ∧ s9 = .int .i64 at' ∧ Aside (at' ∉ l.drop j) ∧ Aside (Good (one [(at', 2)] (Q (l.drop j)))) ∧ Aside (Sep w wr [tabRes b (one [(at', 2)] (Q (l.drop j))), rowRes 3 1 (.slice pl NL ql) NL (intCells l)]))
        case atStart => exact ⟨0, 1000, Nat.zero_le _, by omega, rfl, rfl, H1000.out, HGD.out, HSW.out.up1.tail⟩
        case round =>
          clear HSW HGD
          obtain ⟨j, at', hj, hgg2, rfl, rfl, HNA, HG, HS⟩ := hrel
          have hna : at' ∉ l.drop j := HNA
          have hgd : Good (one [(at', 2)] (Q (l.drop j))) := HG
          have hsw : Sep w wr [tabRes b (one [(at', 2)] (Q (l.drop j))), rowRes 3 1 (.slice pl NL ql) NL (intCells l)] := HS
          by_cases hlt2 : j < NL
          · have hltz2 : (j : Int) < (NL : Int) := by omega
            obtain ⟨x, hx⟩ : ∃ x, l[j]? = some x := ⟨l[j]'(by rw [← HNL.out]; exact hlt2), List.getElem?_eq_getElem _⟩
            have hdrop : l.drop j = x :: l.drop (j + 1) := by
              obtain ⟨h1, h2⟩ := List.getElem?_eq_some_iff.1 hx
              rw [List.drop_eq_getElem_cons h1, h2]
            have hxn : x ∉ l.drop (j + 1) := by
              have h1 : (l.drop j).Nodup := (List.drop_sublist _ _).nodup HFE.out.1
              rw [hdrop] at h1
              exact (List.nodup_cons.1 h1).1
            have hc := release_any hgd HT.out at' hsw
            have hgn := relM_good hgd at'
            rw [hdrop] at hc hgn hna
            rw [t_rel hna hxn] at hc hgn
            have hlx : 0 < (intCells l).length := by unfold intCells; rw [List.length_map, ← HNL.out]; omega
            obtain ⟨g4, rfl⟩ := (hsw.up1).rowAt hlx
            have hrc : (intCells l)[j]? = some (.int .i64 x) := by unfold intCells; rw [List.getElem?_map, hx]; rfl
            have HRC := Lib.hid hrc
            have HC := Lib.hid hc
            have HGN := Lib.hid hgn
            have HXN := Lib.hid hxn
            clear hc hgn hna hxn hdrop hx hlx hrc hgd hsw HNA HG HS
            go_wp2_with fail
            refine HC.out.mono ?_
            rintro e w5 ⟨p5, q5, rfl, hs5⟩
            obtain ⟨g5, rfl⟩ := hs5.rowAt (by simp [intCells])
            have r5 := (hs5.rowCell (j := 0) (u := .int .i64 x) rfl).1
            have r4 := ((hs5.up2).rowCell HRC.out).1
            have hm := fun n => mode_any HGN.out x nmA ((hs5.up1).only (Only.drewN [] w5 n))
            have HM : Hid (∀ n, Calls Tryd.prog 20 #[.pointer (some ⟨b, 0, none⟩), .int .i64 x, .string ⟨#[97]⟩] (w5.drewN n) fun e W' => e = .returned (.int .i64 2) ∧ w5.drewN n = W') := Lib.hid (fun n => by have := hm n; rw [t_mode] at this; exact this)
            have HS5 := Lib.hid (hs5.tail)
            clear hs5 hm
            go_upto_region 21 with fail
            go_quiet ((go_at_call 20; refine Calls.quiet_of_same ((HM.out _).mono fun e w' h => ⟨h.1, h.2.symm⟩)))
            have HS6 := Lib.hid (HS5.out.only (Only.drewN [] w5 nq))
            have r6 := ((HS6.out.up1).rowCell HRC.out).1
            generalize w5.drewN nq = w6 at *
            clear r4 r5 HS5 HM
            go_wp2_with fail
            go_roundg (NL - (j + 1))
            case measure => omega
            case rel => exact ⟨j + 1, x, by omega, by omega, by go_num, rfl, HXN.out, HGN.out, HS6.out⟩
          · have hltz2 : ¬ (j : Int) < (NL : Int) := by omega
            have hd0 : l.drop j = [] := List.drop_of_length_le (by rw [← HNL.out]; omega)
            have hc := release_any hgd HT.out at' hsw
            have hgn := relM_good hgd at'
            rw [hd0] at hc hgn
            rw [show Q [] = [] from rfl, t_end] at hc hgn
            have HC := Lib.hid hc
            clear hc hgn hna hgd hsw HNA HG HS hd0
            go_wp2_with fail
            refine HC.out.mono ?_
            rintro e w5 ⟨p5, q5, rfl, hs5⟩
            have HC2 := Lib.hid (things_any good_nil hs5.up1)
            clear hs5
            go_wp2_with fail
            refine HC2.out.mono ?_
            rintro e w7 ⟨p7, q7, rfl, hs7⟩
            have HO7 := Lib.hid hs7.old
            clear hs7
            go_wp2_with fail
            refine (wakes_any w7 (HT.out.only HO7.out)).mono ?_
            rintro e w8 ⟨rfl, ho8⟩
            have HO8 := Lib.hid (HO7.out.trans ho8 (Within.nil _ _))
            clear ho8
            go_wp2_with fail
            go_ret
            exact ⟨rfl, HO8.out⟩

set_option maxRecDepth 100000 in
theorem lifted (os : Os) (started : os.Started) (H : Type) (enc : TypeId × Value → H) :
    ReturnsInHanded {} Tryd.checked os 8 .any (fun w args => (Rows.lockTurnsSpec.pre enc Tryd.prog Tryd.f8 Rows.lockTurnsRow.domain false w args ∧ laidMetH Tryd.prog Rows.lockTurnsRow.laid w) ∧ sizedMet enc Tryd.prog Tryd.f8 (OpenSpec.ofChange Rows.lockTurnsSpec) false w args)
      (Rows.lockTurnsSpec.post enc Tryd.prog Tryd.f8 false true false false) := by
  refine returnsInHanded_of_change_and (C := Tryd.checked) (X := fun w _ => laidMetH Tryd.prog Rows.lockTurnsRow.laid w) (fun _ _ _ hh h => h.of_heap hh) own started (by kernel_rfl) Tryd.func8
    (ChangeSpec.witness_shaped (enc := enc) (C := Tryd.checked) (os := os) (X := fun w _ => laidMetH Tryd.prog Rows.lockTurnsRow.laid w) false (World.laidAll Tryd.prog os Rows.lockTurnsRow.laid) #[.slice none 0 0] 8 (World.laidAll_os _ _ _)
      (World.shaped_of_ZipB (by kernel_rfl) (by kernel_rfl)) (by kernel_rfl) (by kernel_rfl) (by kernel_rfl)
      (by rw [MakeChecks.laidMetH_plain _ _ _ (by kernel_rfl)]; exact laidMet_laidAll _ (by kernel_rfl) (by kernel_rfl))) ?_
  intro W base args ds gs before hval0 hW _ _ hL _
  have htog : Tog W := tog_of_laid hL
  have hval : ∀ (j : Nat) t v, Tryd.f8.params[j]? = some t → args[j]? = some v → Value.okWide Tryd.prog W .any base t v := hval0
  have hW' := hW
  obtain ⟨pp, pq, hA0, hV, rfl, hfz, hnd⟩ := hW
  have hA : DataW.TrodAll enc Tryd.prog W 0 (fun _ => true) true Tryd.f8.params.toList args.toList ds pp := hA0
  rw [Tryd.params8] at hA hval
  obtain ⟨v0, vs0, d0, ds0, p0, q0, hargs, rfl, rfl, h0, r0⟩ := trodAll_cons hA
  obtain ⟨rfl, rfl, rfl⟩ := trodAll_nil r0
  obtain rfl : args = #[v0] := by cases args; simp_all
  obtain ⟨rfl, rfl⟩ := trodVars_none hV
  obtain ⟨sp0, sl0, sq0, rfl, hl0, hst0⟩ := open_bytes (W := W) (v := v0) (by
    obtain ⟨a, len, cap, rfl⟩ := okWide_slice Tryd.underlying47 (hval 0 47 v0 rfl rfl)
    exact ⟨a, len, cap, rfl⟩) h0
  clear hA0 hval0
  simp only [List.append_nil] at hW'
  refine (walk sp0 sl0 sq0 W hl0 hst0 htog).mono fun e W' ⟨he, hg⟩ => ?_
  subst he
  have hb : Below W.heap.size W W' := hg.below (Nat.le_refl _) (by simp)
  have hargs := (trodAll_cons_mk (Below.trod laidOut (by kernel_rfl) (of_decide_eq_true (by kernel_rfl)) h0 hb (fun x hx => hW'.lt x (by simp [hx]))) trodAll_mk0)
  simp only [List.append_nil] at hargs
  exact ⟨_, rfl, _, _, _, [], _, [], hW', trodAll_cons_mk (shut_bool Tryd.underlying4 _) trodAll_mk0, hargs, rfl, hb.frame _, fun h => by cases h⟩

theorem over : Rows.LockTurnsSaid :=
  OpenClaim.holds_of_wide 8 Tryd.f8 rfl rfl rfl rfl rfl rfl rfl ⟨rfl, rfl, rfl, rfl, rfl⟩ rfl rfl rfl rfl rfl (by kernel_rfl) Tryd.func8 (by kernel_rfl)
    (of_decide_eq_true (by kernel_rfl)) (by unfold Func.isWrapper; first | (rw [if_pos (by decide +kernel)]; kernel_rfl) | (rw [if_neg (by decide +kernel)]; exact ⟨rfl, rfl⟩))
    (fun os started H enc _ => lifted os started H enc)

theorem proved : Rows.LockTurnsCardSaid :=
  Claim7.holds_tied_plain_at .later [] [.data] true Rows.lockTurnsCard.stood.harness false over (fun _ h => by cases h) (by kernel_rfl) (fun _ h => by cases h) lockTurns_row_tie rfl ⟨rfl, rfl⟩ (by kernel_rfl) rfl
    (fun f fn hf hfn => by
      obtain rfl : f = 8 := Option.some.inj ((show Tryd.prog.funcNamed "hedgerow/hedgerowlaw12.LockTurns" = some 8 by kernel_rfl).symm.trans hf) |>.symm
      obtain rfl : fn = Tryd.f8 := (Option.some.inj (Tryd.func8.symm.trans hfn)).symm
      exact ⟨by kernel_rfl, fun j t ht => by
        rw [Tryd.params8] at ht
        have hm : t ∈ [47] := by simpa using Array.mem_of_getElem? ht
        have hall : ([47].all fun u => !Tryd.prog.wantsStandIn u) = true := by kernel_rfl
        exact (show Tryd.prog.wantsStandIn t = false by simpa using List.all_eq_true.1 hall t hm)⟩)
    (by kernel_rfl)
#print axioms proved
end Go.Proofs.YtipfjjcokajjjaaDoor.lockTurns
