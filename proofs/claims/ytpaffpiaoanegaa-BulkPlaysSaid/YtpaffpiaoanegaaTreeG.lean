/-
  What is proved here: a tree as a part of memory, told by its entries; what a key has, what is near it (Get, At, Before, Len, Depth of package tree).
  No condition: each lemma names its own.
-/
import Derived.Test.YtpaffpiaoanegaaFind
import Derived.Deep.LoopGhost
import Derived.WalkMore
set_option linter.unusedVariables false
set_option linter.unusedSimpArgs false
namespace Go.Proofs.Ytpaffpiaoanegaa
open Go.RowKit

def treeParts (q fan n : Nat) (x : Nat × Nat × T) : List Res :=
  [blkRes q (.cells #[.int .i64 fan, .pointer (some ⟨x.1, 0, none⟩), .int .i64 n] 86 (0, 0)), nodeRes x.2.1 x.1 x.2.2]
/-- A tree of the fan, with these entries. -/
def treeRes (q fan : Nat) (L : List E) : Res := exRes (treeParts q fan L.length) (fun x => Root fan x.2.1 x.2.2 ∧ toL x.2.1 x.2.2 = L ∧ 3 ≤ fan ∧ fan ≤ 64)

def TreeAt (W : World) (q fan : Nat) (L : List E) : Prop := ∃ F, (treeRes q fan L).at' W F
theorem Sep.tree {w W : World} {q fan : Nat} {L : List E} {l : List Res} (hs : Sep w W (treeRes q fan L :: l)) : TreeAt W q fan L := by
  obtain ⟨F, h, _⟩ := hs.first; exact ⟨F, h⟩
theorem TreeAt.only {W W' : World} {q fan : Nat} {L : List E} (h : TreeAt W q fan L) (ho : Only [] W W') : TreeAt W' q fan L := by
  obtain ⟨F, hf⟩ := h
  exact ⟨F, (treeRes q fan L).only hf ho (by simp)⟩
theorem NodeAt.only {h : Nat} {W W' : World} {p : Nat} {t : T} (hn : NodeAt h W p t) (ho : Only [] W W') : NodeAt h W' p t := by
  obtain ⟨F, hf⟩ := hn
  exact ⟨F, (nodeRes h p t).only hf ho (by simp)⟩

theorem TreeAt.open {W : World} {q fan : Nat} {L : List E} (h : TreeAt W q fan L) :
    ∃ (p h : Nat) (t : T), W.heap[q]? = some (.cells #[.int .i64 fan, .pointer (some ⟨p, 0, none⟩), .int .i64 L.length] 86 (0, 0)) ∧ NodeAt h W p t ∧ Root fan h t ∧ toL h t = L ∧ 3 ≤ fan ∧ fan ≤ 64 := by
  obtain ⟨F, ⟨p, h, t⟩, h1, h2, h3, h4⟩ := h
  obtain ⟨_, hb⟩ : ∃ G, (blkRes q (.cells #[.int .i64 fan, .pointer (some ⟨p, 0, none⟩), .int .i64 L.length] 86 (0, 0))).at' W G := Parts.mem h1 (by simp [treeParts])
  obtain ⟨G, hn⟩ : ∃ G, (nodeRes h p t).at' W G := Parts.mem h1 (by simp [treeParts])
  exact ⟨p, h, t, hb.2, ⟨G, hn⟩, h2, h3, h4⟩

/-- The child at the place of a key. -/
theorem NodeAt.kid {fan h : Nat} {W : World} {p : Nat} {t : T} {ps : List Nat} (hl : ps.length = t.kids.length) (hk : Kd fan (h + 1) t)
    (hsub : ∀ (i q : Nat) (c : T), ps[i]? = some q → t.kids[i]? = some c → ∃ F, (subRes (h + 1) q c).at' W F) {i : Nat} (hi : i ≤ t.keys.length) :
    ∃ q, ps[i]? = some q ∧ NodeAt h W q t.kids[i]! := by
  have h1 : i < t.kids.length := by have := hk.1; omega
  refine ⟨ps[i], List.getElem?_eq_getElem (by omega), ?_⟩
  exact hsub i _ _ (List.getElem?_eq_getElem (by omega)) (by rw [getElem!_pos t.kids i h1, List.getElem?_eq_getElem h1])

theorem kid_cell {W : World} {cp : Option Addr} {cq : Nat} {ps : List Nat} (hc : W.ownsRow 0 84 1 (.slice cp ps.length cq) ps.length (ps.map ptrV)) {i q : Nat} (hq : ps[i]? = some q) :
    ∃ g, cp = some ⟨g, 0, none⟩ ∧ W.cell? ⟨g, i, none⟩ = some (.pointer (some ⟨q, 0, none⟩)) := by
  obtain ⟨g, h1, h2, _⟩ := ownsRow_cell_of hc (j := i) (u := ptrV q) (by rw [List.getElem?_map, hq]; rfl)
  exact ⟨g, h1, h2⟩

/-- What holds of a node on the way down. -/
theorem Kd.down {fan h : Nat} {t : T} (hk : Kd fan (h + 1) t) (hs : Sorted (toL (h + 1) t)) (key : ByteArray) :
    Kd fan h t.kids[below t.keys key]! ∧ Sorted (toL h t.kids[below t.keys key]!) ∧ t.kids[below t.keys key]!.keys.length < fan := by
  obtain ⟨ka, kb, ca, c, cb, ht, e1, e2, e3, e4, e5, e6, e7, e8, e9⟩ := hk.at_ hs key
  have hcl : t.kids = ca ++ c :: cb := by rw [ht]; rfl
  have hc0 : t.kids[below t.keys key]! = c := by rw [← e1, hcl]; exact get_mid (by omega)
  rw [e4] at hs
  rw [hc0]
  exact ⟨e7, (List.pairwise_append.1 (List.pairwise_append.1 hs).2.1).1, e9⟩

set_option maxRecDepth 100000 in
set_option maxHeartbeats 1000000 in
theorem get_any {W : World} {q fan : Nat} {L : List E} (hT : TreeAt W q fan L) (key : ByteArray) :
    Calls Try.prog 31 #[.pointer (some ⟨q, 0, none⟩), .string key] W fun r W' => r = .returned (.tuple #[.int .i64 ((getL L key).getD 0), .bool (getL L key).isSome]) ∧ Only [] W W' := by
  obtain ⟨p, h, t, hb, hn, hr, hL, hf1, hf2⟩ := hT.open
  have k1 := cell_of_block hb 1 (v := .pointer (some ⟨p, 0, none⟩)) rfl
  have HG := Lib.hid (show getT h t key = getL L key from by rw [← hL]; exact getT_ok (fan := fan) key h t hr.kd hr.sorted)
  have HN := Lib.hid hn
  have HR := Lib.hid hr
  clear hb hT hn hr hL
  go_enter Try.func31, Try.ntmps31
  go_wp2_with fail
  go_step3
  go_wp2_with fail
  go_step3
  go_wp2_with fail
  go_loopg [6] h (fun k s6 wr => ∃ (p' : Nat) (t' : T), s6 = .pointer (some ⟨p', 0, none⟩) ∧ NodeAt k W p' t' ∧ Kd fan k t' ∧ Sorted (toL k t') ∧ t'.keys.length < fan ∧ getT k t' key = getL L key ∧ Only [] W wr)
  case atStart => exact ⟨p, t, rfl, HN.out, HR.out.kd, HR.out.sorted, HR.out.lt, HG.out, Only.refl _ _⟩
  case round =>
    clear HN HR HG k1
    obtain ⟨p', t', rfl, hn, hk, hs, hlt, hg, how⟩ := hrel
    have hks : Sorted t'.keys := hs.sublist hk.keys
    obtain ⟨kp, kq, cp, cq, ps, hpl, hb, hkr, hcr, hsub⟩ := hn.open
    have k0 := (how.cell (block_lt_of_cell (cell_of_block hb 0 (v := .slice kp t'.keys.length kq) rfl)) (by simp)).trans (cell_of_block hb 0 (v := .slice kp t'.keys.length kq) rfl)
    have k1 := (how.cell (block_lt_of_cell (cell_of_block hb 1 (v := .slice cp ps.length cq) rfl)) (by simp)).trans (cell_of_block hb 1 (v := .slice cp ps.length cq) rfl)
    have HN := Lib.hid hn
    have HOW := Lib.hid how
    have HKS := Lib.hid hks
    have HPL := Lib.hid hpl
    have HSUB := Lib.hid hsub
    have HCR := Lib.hid hcr
    have HKR := Lib.hid hkr
    have HK := Lib.hid hk
    have HS := Lib.hid hs
    have HG := Lib.hid hg
    clear hn how hks hpl hsub hcr hkr hk hs hb hg
    have HK0 := Lib.hid k0
    have HK1 := Lib.hid k1
    clear k0 k1
    go_wp2_with fail
    refine (find_any (HN.out.only HOW.out) (by omega) HKS.out key).mono ?_
    rintro r w1 ⟨rfl, o1⟩
    have O1 := Lib.hid (HOW.out.trans o1 (Within.nil _ _))
    have k0 := (o1.cell (block_lt_of_cell HK0.out) (by simp)).trans HK0.out
    have k1 := (o1.cell (block_lt_of_cell HK1.out) (by simp)).trans HK1.out
    clear o1
    by_cases hh : here t'.keys key = true
    · obtain ⟨e, he⟩ : ∃ e, t'.keys[below t'.keys key]? = some e := by
        obtain ⟨A, e, B, h1, h2, h3⟩ := kd_of_here hh
        refine ⟨e, ?_⟩
        rw [← h2, h1, List.getElem?_append_right (Nat.le_refl _), Nat.sub_self]; rfl
      obtain ⟨g, rfl, c1, c2⟩ := keyCells HKR.out he
      have d2 := (O1.out.cell (block_lt_of_cell c2) (by simp)).trans c2
      have hbl := (List.getElem?_eq_some_iff.1 he).1
      have hv : getL L key = some e.2 := by
        rw [← HG.out]
        have : getT gk t' key = some (t'.keys[below t'.keys key]!).2 := by cases gk <;> rw [getT, if_pos hh]
        rw [this, getElem!_pos t'.keys _ hbl, (List.getElem?_eq_some_iff.1 he).2]
      have HV := Lib.hid hv
      clear c1 c2 he hv
      obtain ⟨i, hi⟩ : ∃ i, i = below t'.keys key := ⟨_, rfl⟩
      rw [← hi] at d2 hbl ⊢
      have HI := Lib.hid hi
      clear hi
      go_wp2_with fail
      rw [Exit.noGoto_ret]
      go_ret2
      exact ⟨by rw [HV.out]; rfl, O1.out⟩
    · have hh' : here t'.keys key = false := by simpa using hh
      rw [hh']
      have hbl := below_le t'.keys key
      cases gk with
      | zero =>
        have h0 : ps.length = 0 := by rw [HPL.out, show t'.kids = [] from HK.out]; rfl
        have hv : getL L key = none := by rw [← HG.out, getT, if_neg hh]
        have HV := Lib.hid hv; clear hv
        have HZ := Lib.hid h0
        rw [h0] at k1
        go_wp2_with fail
        rw [Exit.noGoto_ret]
        go_ret2
        exact ⟨by rw [HV.out]; rfl, O1.out⟩
      | succ gk =>
        obtain ⟨q', hq', hn'⟩ := NodeAt.kid (W := W) (p := p') HPL.out HK.out HSUB.out (i := below t'.keys key) hbl
        obtain ⟨d1, d2, d3⟩ := HK.out.down HS.out key
        obtain ⟨g, rfl, c1⟩ := kid_cell HCR.out hq'
        have c2 := (O1.out.cell (block_lt_of_cell c1) (by simp)).trans c1
        have hpl0 : 0 < ps.length := by have := HK.out.1; have := HPL.out; omega
        have hbl2 : below t'.keys key < ps.length := by have := HK.out.1; have := HPL.out; omega
        have hv : getT gk t'.kids[below t'.keys key]! key = getL L key := by rw [← HG.out, getT, if_neg hh]
        have HV := Lib.hid hv
        have HN' := Lib.hid hn'
        have HD := Lib.hid (And.intro d1 (And.intro d2 d3))
        clear hv hn' d1 d2 d3 c1 hq'
        obtain ⟨c, hc⟩ : ∃ c, c = t'.kids[below t'.keys key]! := ⟨_, rfl⟩
        rw [← hc] at HV HN' HD
        have HC := Lib.hid hc; clear hc
        obtain ⟨i, hi⟩ : ∃ i, i = below t'.keys key := ⟨_, rfl⟩
        rw [← hi] at c2 hbl hbl2 ⊢
        have HI := Lib.hid hi; clear hi
        go_wp2_with fail
        go_roundg gk
        case measure => omega
        case rel => exact ⟨q', c, rfl, HN'.out, HD.out.1, HD.out.2.1, HD.out.2.2, HV.out, O1.out⟩

end Go.Proofs.Ytpaffpiaoanegaa
