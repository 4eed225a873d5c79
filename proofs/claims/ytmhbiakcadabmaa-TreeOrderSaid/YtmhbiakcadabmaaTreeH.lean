/-
  What is proved here: the key that is near another one (At, Before of package tree).
  No condition: each lemma names its own.
-/
import Derived.Test.YtmhbiakcadabmaaTreeG
set_option linter.unusedVariables false
set_option linter.unusedSimpArgs false
namespace Go.Proofs.Ytmhbiakcadabmaa
open Go.RowKit

def bestC (o : Option E) : Array Value := match o with | some e => #[.string e.1, .int .i64 e.2] | none => #[.string ⟨#[]⟩, .int .i64 0]
def trio (o : Option E) : Value := match o with | some e => .tuple #[.string e.1, .int .i64 e.2, .bool true] | none => .tuple #[.string ⟨#[]⟩, .int .i64 0, .bool false]
theorem text_ne {a b : ByteArray} (h : a ≠ b) : (a.toList == b.toList) = false := by
  rw [Bool.eq_false_iff]
  intro q
  rw [beq_iff_eq, Lib.toList_data, Lib.toList_data] at q
  refine h ?_
  cases a; cases b
  simp only [ByteArray.mk.injEq]
  exact Array.toList_inj.1 q

set_option maxRecDepth 100000 in
set_option maxHeartbeats 2000000 in
theorem at_any {W : World} {q fan : Nat} {L : List E} (hT : TreeAt W q fan L) (key : ByteArray) :
    Calls Try.prog 25 #[.pointer (some ⟨q, 0, none⟩), .string key] W fun r W' => r = .returned (trio (atL L key none)) ∧ Only [] W W' := by
  obtain ⟨p, h, t, hb, hn, hr, hL, hf1, hf2⟩ := hT.open
  have hq : q < W.heap.size := lt_of_block hb
  have k1 := cell_of_block (w := W.alloc (.cells #[.string ⟨#[]⟩, .int .i64 0] 59)) ((heap_alloc_lt hq).trans hb) 1 (v := .pointer (some ⟨p, 0, none⟩)) rfl
  have HG := Lib.hid (show atT h t key none = atL L key none from by rw [← hL]; exact atT_ok (fan := fan) key h t none hr.kd hr.sorted rfl)
  have HN := Lib.hid hn
  have HR := Lib.hid hr
  clear hb hT hn hr hL
  go_enter Try.func25, Try.ntmps25
  go_wp2_with fail
  go_step3
  go_wp2_with fail
  go_step3
  go_wp2_with fail
  go_loopg [8, 9] h (fun k s8 s9 wr => ∃ (p' : Nat) (t' : T) (best : Option E), s9 = .pointer (some ⟨p', 0, none⟩) ∧ s8 = .bool best.isSome ∧ NodeAt k W p' t' ∧ Kd fan k t' ∧ Sorted (toL k t') ∧ t'.keys.length < fan ∧ isAt best key = false ∧ atT k t' key best = atL L key none ∧ wr.heap[W.heap.size]? = some (.cells (bestC best) 59 (0, 0)) ∧ Only [] W wr)
  case atStart => exact ⟨p, t, none, rfl, rfl, HN.out, HR.out.kd, HR.out.sorted, HR.out.lt, rfl, HG.out, heap_alloc_self, Only.alloc [] W _⟩
  case round =>
    clear HN HR HG k1
    obtain ⟨p', t', best, rfl, rfl, hn, hk, hs, hlt, hib, hg, hbb, how⟩ := hrel
    have hks : Sorted t'.keys := hs.sublist hk.keys
    obtain ⟨kp, kq, cp, cq, ps, hpl, hb, hkr, hcr, hsub⟩ := hn.open
    have hpW := lt_of_block hb
    have hpne : p' ≠ W.heap.size := by omega
    have hpne' : W.heap.size ≠ p' := by omega
    have HK0 := Lib.hid ((how.cell (block_lt_of_cell (cell_of_block hb 0 (v := .slice kp t'.keys.length kq) rfl)) (by simp)).trans (cell_of_block hb 0 (v := .slice kp t'.keys.length kq) rfl))
    have HK1 := Lib.hid ((how.cell (block_lt_of_cell (cell_of_block hb 1 (v := .slice cp ps.length cq) rfl)) (by simp)).trans (cell_of_block hb 1 (v := .slice cp ps.length cq) rfl))
    have HN := Lib.hid hn
    have HOW := Lib.hid how
    have HKS := Lib.hid hks
    have HPL := Lib.hid hpl
    have HSUB := Lib.hid hsub
    have HCR := Lib.hid hcr
    have HKR := Lib.hid hkr
    have HK := Lib.hid hk
    have HS := Lib.hid hs
    have HG := Lib.hid hg
    have HBB := Lib.hid hbb
    have HIB := Lib.hid hib
    clear hn how hks hpl hsub hcr hkr hk hs hb hg hbb hib
    go_wp2_with fail
    refine (find_any (HN.out.only HOW.out) (by omega) HKS.out key).mono ?_
    rintro r w1 ⟨rfl, o1⟩
    have O1 := Lib.hid (HOW.out.trans o1 (Within.nil _ _))
    have k0 := (o1.cell (block_lt_of_cell HK0.out) (by simp)).trans HK0.out
    have k1 := (o1.cell (block_lt_of_cell HK1.out) (by simp)).trans HK1.out
    have HB1 := Lib.hid (o1.keeps HBB.out (by simp))
    clear o1 HBB
    have hbl := below_le t'.keys key
    by_cases hin : below t'.keys key < t'.keys.length
    · obtain ⟨e, he⟩ : ∃ e, t'.keys[below t'.keys key]? = some e := ⟨_, List.getElem?_eq_getElem hin⟩
      obtain ⟨g, rfl, c1, c2⟩ := keyCells HKR.out he
      have d1 := (O1.out.cell (block_lt_of_cell c1) (by simp)).trans c1
      have d2 := (O1.out.cell (block_lt_of_cell c2) (by simp)).trans c2
      have hgne : g ≠ W.heap.size := by have := block_lt_of_cell c1; simp only at this; omega
      clear c1 c2
      have HE := Lib.hid he; clear he
      have f0 := free_of_block HB1.out 0
      have f1 := free_of_block HB1.out 1
      obtain ⟨u0, e0⟩ : ∃ u, w1.cell? ⟨W.heap.size, 0, none⟩ = some u := cell_in HB1.out (by cases best <;> exact Nat.zero_lt_succ _)
      obtain ⟨u1, e1⟩ : ∃ u, w1.cell? ⟨W.heap.size, 1, none⟩ = some u := cell_in HB1.out (by cases best <;> exact Nat.lt_succ_self 1)
      have HO2 : Hid (Only [] W ((w1.setCell ⟨W.heap.size, 0, none⟩ (.string e.1)).setCell ⟨W.heap.size, 1, none⟩ (.int .i64 e.2))) :=
        O1.out.trans ((Only.cellAt w1 W.heap.size 0 _).trans (Only.cellAt _ W.heap.size 1 _) (Within.refl _ _)) (fun k hk => by right; simp at hk; omega)
      have HB2 : Hid (((w1.setCell ⟨W.heap.size, 0, none⟩ (.string e.1)).setCell ⟨W.heap.size, 1, none⟩ (.int .i64 e.2)).heap[W.heap.size]? = some (.cells (bestC (some e)) 59 (0, 0))) := by
        have := heap_setCell_self (i := 1) (v := .int .i64 e.2) (heap_setCell_self (i := 0) (v := .string e.1) HB1.out)
        refine this.trans ?_
        cases best <;> rfl
      cases gk with
      | zero =>
        have h0 : ps.length = 0 := by rw [HPL.out, show t'.kids = [] from HK.out]; rfl
        rw [h0] at k1
        have HV := Lib.hid (show atL L key none = some e from by rw [← HG.out]; show orE t'.keys[below t'.keys key]? best = _; rw [HE.out]; rfl)
        obtain ⟨i, hi⟩ : ∃ i, i = below t'.keys key := ⟨_, rfl⟩
        rw [← hi] at d1 d2 hin hbl ⊢
        have HI := Lib.hid hi; clear hi
        go_wp2_with fail
        go_quiet (fail)
        go_wp2_with fail
        rw [Exit.noGoto_ret]
        go_ret3
        exact ⟨by rw [HV.out]; rfl, (HO2.out).trans (Only.drewN [] _ _) (Within.nil _ _)⟩
      | succ gk =>
        obtain ⟨q', hq', hn'⟩ := NodeAt.kid (W := W) (p := p') HPL.out HK.out HSUB.out (i := below t'.keys key) hbl
        obtain ⟨d3, d4, d5⟩ := HK.out.down HS.out key
        obtain ⟨gc, rfl, c3⟩ := kid_cell HCR.out hq'
        have c4 := (O1.out.cell (block_lt_of_cell c3) (by simp)).trans c3
        have hgcne : gc ≠ W.heap.size := by have := block_lt_of_cell c3; simp only at this; omega
        have hpl0 : 0 < ps.length := by have := HK.out.1; have := HPL.out; omega
        have hbl2 : below t'.keys key < ps.length := by have := HK.out.1; have := HPL.out; omega
        have HN' := Lib.hid hn'
        have HD := Lib.hid (And.intro d3 (And.intro d4 d5))
        clear hn' d3 d4 d5 c3 hq'
        by_cases hek : e.1 = key
        · have hst : (e.1.toList == key.toList) = true := by rw [hek]; simp
          have HV := Lib.hid (show atL L key none = some e from by rw [← HG.out, atT, HE.out]; simp [orE, isAt, hek])
          clear hek
          obtain ⟨i, hi⟩ : ∃ i, i = below t'.keys key := ⟨_, rfl⟩
          rw [← hi] at d1 d2 hin hbl c4 hbl2 ⊢
          have HI := Lib.hid hi; clear hi
          go_wp2_with fail
          go_quiet (fail)
          go_wp2_with fail
          rw [Exit.noGoto_ret]
          go_ret3
          exact ⟨by rw [HV.out]; rfl, (HO2.out).trans (Only.drewN [] _ _) (Within.nil _ _)⟩
        · have hst : (e.1.toList == key.toList) = false := text_ne hek
          have HV := Lib.hid (show atT gk t'.kids[below t'.keys key]! key (some e) = atL L key none from by rw [← HG.out, atT, HE.out]; simp [orE, isAt, hek])
          have HEK := Lib.hid hek; clear hek
          obtain ⟨c, hc⟩ : ∃ c, c = t'.kids[below t'.keys key]! := ⟨_, rfl⟩
          rw [← hc] at HV HN' HD
          have HC := Lib.hid hc; clear hc
          obtain ⟨i, hi⟩ : ∃ i, i = below t'.keys key := ⟨_, rfl⟩
          rw [← hi] at d1 d2 hin hbl c4 hbl2 ⊢
          have HI := Lib.hid hi; clear hi
          go_wp2_with fail
          go_roundg gk
          case measure => omega
          case rel => exact ⟨q', c, some e, rfl, rfl, HN'.out, HD.out.1, HD.out.2.1, HD.out.2.2, by simpa [isAt] using HEK.out, HV.out, HB2.out, HO2.out⟩
    · have hin' : ¬ ((below t'.keys key : Int) < (t'.keys.length : Int)) := by omega
      have he : t'.keys[below t'.keys key]? = none := List.getElem?_eq_none (by omega)
      have HE := Lib.hid he; clear he
      cases gk with
      | zero =>
        have h0 : ps.length = 0 := by rw [HPL.out, show t'.kids = [] from HK.out]; rfl
        rw [h0] at k1
        have HV := Lib.hid (show atL L key none = best from by rw [← HG.out]; show orE t'.keys[below t'.keys key]? best = _; rw [HE.out]; rfl)
        cases best with
        | none =>
          have e0 := cell_of_block HB1.out 0 (v := .string ⟨#[]⟩) rfl
          have e1 := cell_of_block HB1.out 1 (v := .int .i64 0) rfl
          obtain ⟨i, hi⟩ : ∃ i, i = below t'.keys key := ⟨_, rfl⟩
          rw [← hi] at hin hin' hbl ⊢
          have HI := Lib.hid hi; clear hi
          go_wp2_with fail
          go_quiet (fail)
          go_wp2_with fail
          rw [Exit.noGoto_ret]
          go_ret3
          exact ⟨by rw [HV.out]; rfl, (O1.out).trans (Only.drewN [] _ _) (Within.nil _ _)⟩
        | some b =>
          have e0 := cell_of_block HB1.out 0 (v := .string b.1) rfl
          have e1 := cell_of_block HB1.out 1 (v := .int .i64 b.2) rfl
          obtain ⟨i, hi⟩ : ∃ i, i = below t'.keys key := ⟨_, rfl⟩
          rw [← hi] at hin hin' hbl ⊢
          have HI := Lib.hid hi; clear hi
          go_wp2_with fail
          go_quiet (fail)
          go_wp2_with fail
          rw [Exit.noGoto_ret]
          go_ret3
          exact ⟨by rw [HV.out]; rfl, (O1.out).trans (Only.drewN [] _ _) (Within.nil _ _)⟩
      | succ gk =>
        obtain ⟨q', hq', hn'⟩ := NodeAt.kid (W := W) (p := p') HPL.out HK.out HSUB.out (i := below t'.keys key) hbl
        obtain ⟨d3, d4, d5⟩ := HK.out.down HS.out key
        obtain ⟨gc, rfl, c3⟩ := kid_cell HCR.out hq'
        have c4 := (O1.out.cell (block_lt_of_cell c3) (by simp)).trans c3
        have hgcne : gc ≠ W.heap.size := by have := block_lt_of_cell c3; simp only at this; omega
        have hpl0 : 0 < ps.length := by have := HK.out.1; have := HPL.out; omega
        have hbl2 : below t'.keys key < ps.length := by have := HK.out.1; have := HPL.out; omega
        have HN' := Lib.hid hn'
        have HD := Lib.hid (And.intro d3 (And.intro d4 d5))
        clear hn' d3 d4 d5 c3 hq'
        cases best with
        | none =>
          have HV := Lib.hid (show atT gk t'.kids[below t'.keys key]! key none = atL L key none from by rw [← HG.out, atT, HE.out]; simp [orE, isAt])
          obtain ⟨c, hc⟩ : ∃ c, c = t'.kids[below t'.keys key]! := ⟨_, rfl⟩
          rw [← hc] at HV HN' HD
          have HC := Lib.hid hc; clear hc
          obtain ⟨i, hi⟩ : ∃ i, i = below t'.keys key := ⟨_, rfl⟩
          rw [← hi] at hin hin' hbl c4 hbl2 ⊢
          have HI := Lib.hid hi; clear hi
          go_wp2_with fail
          go_roundg gk
          case measure => omega
          case rel => exact ⟨q', c, none, rfl, rfl, HN'.out, HD.out.1, HD.out.2.1, HD.out.2.2, rfl, HV.out, HB1.out, O1.out⟩
        | some b =>
          have hbk : b.1 ≠ key := by simpa [isAt] using HIB.out
          have hst : (b.1.toList == key.toList) = false := text_ne hbk
          have e0 := cell_of_block HB1.out 0 (v := .string b.1) rfl
          have HV := Lib.hid (show atT gk t'.kids[below t'.keys key]! key (some b) = atL L key none from by rw [← HG.out, atT, HE.out]; simp [orE, isAt, hbk])
          clear hbk
          obtain ⟨c, hc⟩ : ∃ c, c = t'.kids[below t'.keys key]! := ⟨_, rfl⟩
          rw [← hc] at HV HN' HD
          have HC := Lib.hid hc; clear hc
          obtain ⟨i, hi⟩ : ∃ i, i = below t'.keys key := ⟨_, rfl⟩
          rw [← hi] at hin hin' hbl c4 hbl2 ⊢
          have HI := Lib.hid hi; clear hi
          go_wp2_with fail
          go_roundg gk
          case measure => omega
          case rel => exact ⟨q', c, some b, rfl, rfl, HN'.out, HD.out.1, HD.out.2.1, HD.out.2.2, HIB.out, HV.out, HB1.out, O1.out⟩

set_option maxRecDepth 100000 in
set_option maxHeartbeats 2000000 in
theorem before_any {W : World} {q fan : Nat} {L : List E} (hT : TreeAt W q fan L) (key : ByteArray) :
    Calls Try.prog 26 #[.pointer (some ⟨q, 0, none⟩), .string key] W fun r W' => r = .returned (trio (befL L key none)) ∧ Only [] W W' := by
  obtain ⟨p, h, t, hb, hn, hr, hL, hf1, hf2⟩ := hT.open
  have hq : q < W.heap.size := lt_of_block hb
  have k1 := cell_of_block (w := W.alloc (.cells #[.string ⟨#[]⟩, .int .i64 0] 59)) ((heap_alloc_lt hq).trans hb) 1 (v := .pointer (some ⟨p, 0, none⟩)) rfl
  have HG := Lib.hid (show befT h t key none = befL L key none from by rw [← hL]; exact befT_ok (fan := fan) key h t none hr.kd hr.sorted)
  have HN := Lib.hid hn
  have HR := Lib.hid hr
  clear hb hT hn hr hL
  go_enter Try.func26, Try.ntmps26
  go_wp2_with fail
  go_step3
  go_wp2_with fail
  go_step3
  go_wp2_with fail
  go_loopg [8, 9] h (fun k s8 s9 wr => ∃ (p' : Nat) (t' : T) (best : Option E), s9 = .pointer (some ⟨p', 0, none⟩) ∧ s8 = .bool best.isSome ∧ NodeAt k W p' t' ∧ Kd fan k t' ∧ Sorted (toL k t') ∧ t'.keys.length < fan ∧ befT k t' key best = befL L key none ∧ wr.heap[W.heap.size]? = some (.cells (bestC best) 59 (0, 0)) ∧ Only [] W wr)
  case atStart => exact ⟨p, t, none, rfl, rfl, HN.out, HR.out.kd, HR.out.sorted, HR.out.lt, HG.out, heap_alloc_self, Only.alloc [] W _⟩
  case round =>
    clear HN HR HG k1
    obtain ⟨p', t', best, rfl, rfl, hn, hk, hs, hlt, hg, hbb, how⟩ := hrel
    have hks : Sorted t'.keys := hs.sublist hk.keys
    obtain ⟨kp, kq, cp, cq, ps, hpl, hb, hkr, hcr, hsub⟩ := hn.open
    have hpW := lt_of_block hb
    have hpne : p' ≠ W.heap.size := by omega
    have hpne' : W.heap.size ≠ p' := by omega
    have HK0 := Lib.hid ((how.cell (block_lt_of_cell (cell_of_block hb 0 (v := .slice kp t'.keys.length kq) rfl)) (by simp)).trans (cell_of_block hb 0 (v := .slice kp t'.keys.length kq) rfl))
    have HK1 := Lib.hid ((how.cell (block_lt_of_cell (cell_of_block hb 1 (v := .slice cp ps.length cq) rfl)) (by simp)).trans (cell_of_block hb 1 (v := .slice cp ps.length cq) rfl))
    have HN := Lib.hid hn
    have HOW := Lib.hid how
    have HKS := Lib.hid hks
    have HPL := Lib.hid hpl
    have HSUB := Lib.hid hsub
    have HCR := Lib.hid hcr
    have HKR := Lib.hid hkr
    have HK := Lib.hid hk
    have HS := Lib.hid hs
    have HG := Lib.hid hg
    have HBB := Lib.hid hbb
    clear hn how hks hpl hsub hcr hkr hk hs hb hg hbb
    go_wp2_with fail
    refine (find_any (HN.out.only HOW.out) (by omega) HKS.out key).mono ?_
    rintro r w1 ⟨rfl, o1⟩
    have O1 := Lib.hid (HOW.out.trans o1 (Within.nil _ _))
    have k0 := (o1.cell (block_lt_of_cell HK0.out) (by simp)).trans HK0.out
    have k1 := (o1.cell (block_lt_of_cell HK1.out) (by simp)).trans HK1.out
    have HB1 := Lib.hid (o1.keeps HBB.out (by simp))
    clear o1 HBB
    have hbl := below_le t'.keys key
    by_cases hin : 0 < below t'.keys key
    · obtain ⟨e, he⟩ : ∃ e, t'.keys[below t'.keys key - 1]? = some e := ⟨_, List.getElem?_eq_getElem (by omega)⟩
      obtain ⟨g, rfl, c1, c2⟩ := keyCells HKR.out he
      have d1 := (O1.out.cell (block_lt_of_cell c1) (by simp)).trans c1
      have d2 := (O1.out.cell (block_lt_of_cell c2) (by simp)).trans c2
      have hgne : g ≠ W.heap.size := by have := block_lt_of_cell c1; simp only at this; omega
      clear c1 c2
      have hbe : (if 0 < below t'.keys key then some t'.keys[below t'.keys key - 1]! else best) = some e := by
        rw [if_pos hin, getElem!_pos t'.keys _ (by omega), (List.getElem?_eq_some_iff.1 he).2]
      have HBE := Lib.hid hbe; clear hbe he
      have hin' : (0 : Int) < (below t'.keys key : Int) := by omega
      have hin2 : (below t'.keys key : Int) - 1 < (t'.keys.length : Int) := by omega
      have hin3 : (0 : Int) ≤ (below t'.keys key : Int) - 1 := by omega
      have hin4 : ((below t'.keys key : Int) - 1).toNat = below t'.keys key - 1 := by omega
      have hin5 : below t'.keys key - 1 < t'.keys.length := by omega
      have f0 := free_of_block HB1.out 0
      have f1 := free_of_block HB1.out 1
      obtain ⟨u0, e0⟩ : ∃ u, w1.cell? ⟨W.heap.size, 0, none⟩ = some u := cell_in HB1.out (by cases best <;> exact Nat.zero_lt_succ _)
      obtain ⟨u1, e1⟩ : ∃ u, w1.cell? ⟨W.heap.size, 1, none⟩ = some u := cell_in HB1.out (by cases best <;> exact Nat.lt_succ_self 1)
      have HO2 : Hid (Only [] W ((w1.setCell ⟨W.heap.size, 0, none⟩ (.string e.1)).setCell ⟨W.heap.size, 1, none⟩ (.int .i64 e.2))) :=
        O1.out.trans ((Only.cellAt w1 W.heap.size 0 _).trans (Only.cellAt _ W.heap.size 1 _) (Within.refl _ _)) (fun k hk => by right; simp at hk; omega)
      have HB2 : Hid (((w1.setCell ⟨W.heap.size, 0, none⟩ (.string e.1)).setCell ⟨W.heap.size, 1, none⟩ (.int .i64 e.2)).heap[W.heap.size]? = some (.cells (bestC (some e)) 59 (0, 0))) := by
        have := heap_setCell_self (i := 1) (v := .int .i64 e.2) (heap_setCell_self (i := 0) (v := .string e.1) HB1.out)
        refine this.trans ?_
        cases best <;> rfl
      cases gk with
      | zero =>
        have h0 : ps.length = 0 := by rw [HPL.out, show t'.kids = [] from HK.out]; rfl
        rw [h0] at k1
        have HV := Lib.hid (show befL L key none = some e from by rw [← HG.out, ← HBE.out]; rfl)
        obtain ⟨i, hi⟩ : ∃ i, i = below t'.keys key := ⟨_, rfl⟩
        rw [← hi] at d1 d2 hin hin' hin2 hin3 hin4 hin5 hbl ⊢
        have HI := Lib.hid hi; clear hi
        go_wp2_with fail
        go_quiet (fail)
        go_wp2_with fail
        rw [Exit.noGoto_ret]
        go_ret3
        exact ⟨by rw [HV.out]; rfl, (HO2.out).trans (Only.drewN [] _ _) (Within.nil _ _)⟩
      | succ gk =>
        obtain ⟨q', hq', hn'⟩ := NodeAt.kid (W := W) (p := p') HPL.out HK.out HSUB.out (i := below t'.keys key) hbl
        obtain ⟨d3, d4, d5⟩ := HK.out.down HS.out key
        obtain ⟨gc, rfl, c3⟩ := kid_cell HCR.out hq'
        have c4 := (O1.out.cell (block_lt_of_cell c3) (by simp)).trans c3
        have hgcne : gc ≠ W.heap.size := by have := block_lt_of_cell c3; simp only at this; omega
        have hpl0 : 0 < ps.length := by have := HK.out.1; have := HPL.out; omega
        have hbl2 : below t'.keys key < ps.length := by have := HK.out.1; have := HPL.out; omega
        have HN' := Lib.hid hn'
        have HD := Lib.hid (And.intro d3 (And.intro d4 d5))
        clear hn' d3 d4 d5 c3 hq'
        have HV := Lib.hid (show befT gk t'.kids[below t'.keys key]! key (some e) = befL L key none from by rw [← HG.out, befT, HBE.out])
        obtain ⟨c, hc⟩ : ∃ c, c = t'.kids[below t'.keys key]! := ⟨_, rfl⟩
        rw [← hc] at HV HN' HD
        have HC := Lib.hid hc; clear hc
        obtain ⟨i, hi⟩ : ∃ i, i = below t'.keys key := ⟨_, rfl⟩
        rw [← hi] at d1 d2 hin hin' hin2 hin3 hin4 hin5 hbl c4 hbl2 ⊢
        have HI := Lib.hid hi; clear hi
        go_wp2_with fail
        go_roundg gk
        case measure => omega
        case rel => exact ⟨q', c, some e, rfl, rfl, HN'.out, HD.out.1, HD.out.2.1, HD.out.2.2, HV.out, HB2.out, HO2.out⟩
    · have hin' : ¬ ((0 : Int) < (below t'.keys key : Int)) := by omega
      have hbe : (if 0 < below t'.keys key then some t'.keys[below t'.keys key - 1]! else best) = best := if_neg hin
      have HBE := Lib.hid hbe; clear hbe
      cases gk with
      | zero =>
        have h0 : ps.length = 0 := by rw [HPL.out, show t'.kids = [] from HK.out]; rfl
        rw [h0] at k1
        have HV := Lib.hid (show befL L key none = best from by rw [← HG.out]; exact HBE.out)
        cases best with
        | none =>
          have e0 := cell_of_block HB1.out 0 (v := .string ⟨#[]⟩) rfl
          have e1 := cell_of_block HB1.out 1 (v := .int .i64 0) rfl
          obtain ⟨i, hi⟩ : ∃ i, i = below t'.keys key := ⟨_, rfl⟩
          rw [← hi] at hin hin' hbl ⊢
          have HI := Lib.hid hi; clear hi
          go_wp2_with fail
          go_quiet (fail)
          go_wp2_with fail
          rw [Exit.noGoto_ret]
          go_ret3
          exact ⟨by rw [HV.out]; rfl, (O1.out).trans (Only.drewN [] _ _) (Within.nil _ _)⟩
        | some b =>
          have e0 := cell_of_block HB1.out 0 (v := .string b.1) rfl
          have e1 := cell_of_block HB1.out 1 (v := .int .i64 b.2) rfl
          obtain ⟨i, hi⟩ : ∃ i, i = below t'.keys key := ⟨_, rfl⟩
          rw [← hi] at hin hin' hbl ⊢
          have HI := Lib.hid hi; clear hi
          go_wp2_with fail
          go_quiet (fail)
          go_wp2_with fail
          rw [Exit.noGoto_ret]
          go_ret3
          exact ⟨by rw [HV.out]; rfl, (O1.out).trans (Only.drewN [] _ _) (Within.nil _ _)⟩
      | succ gk =>
        obtain ⟨q', hq', hn'⟩ := NodeAt.kid (W := W) (p := p') HPL.out HK.out HSUB.out (i := below t'.keys key) hbl
        obtain ⟨d3, d4, d5⟩ := HK.out.down HS.out key
        obtain ⟨gc, rfl, c3⟩ := kid_cell HCR.out hq'
        have c4 := (O1.out.cell (block_lt_of_cell c3) (by simp)).trans c3
        have hgcne : gc ≠ W.heap.size := by have := block_lt_of_cell c3; simp only at this; omega
        have hpl0 : 0 < ps.length := by have := HK.out.1; have := HPL.out; omega
        have hbl2 : below t'.keys key < ps.length := by have := HK.out.1; have := HPL.out; omega
        have HN' := Lib.hid hn'
        have HD := Lib.hid (And.intro d3 (And.intro d4 d5))
        clear hn' d3 d4 d5 c3 hq'
        have HV := Lib.hid (show befT gk t'.kids[below t'.keys key]! key best = befL L key none from by rw [← HG.out, befT, HBE.out])
        obtain ⟨c, hc⟩ : ∃ c, c = t'.kids[below t'.keys key]! := ⟨_, rfl⟩
        rw [← hc] at HV HN' HD
        have HC := Lib.hid hc; clear hc
        obtain ⟨i, hi⟩ : ∃ i, i = below t'.keys key := ⟨_, rfl⟩
        rw [← hi] at hin hin' hbl c4 hbl2 ⊢
        have HI := Lib.hid hi; clear hi
        go_wp2_with fail
        go_roundg gk
        case measure => omega
        case rel => exact ⟨q', c, best, rfl, rfl, HN'.out, HD.out.1, HD.out.2.1, HD.out.2.2, HV.out, HB1.out, O1.out⟩

end Go.Proofs.Ytmhbiakcadabmaa
