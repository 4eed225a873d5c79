/-
  What is proved here: the document's Take, whole.
  No condition: each lemma names its own.
-/
import Derived.Test.YtipfjjcokajjjaaDoorRfH
import Derived.Test.YtipfjjcokajjjaaDoorRfI
set_option linter.unusedVariables false
set_option linter.unusedSimpArgs false
namespace Go.Proofs.YtipfjjcokajjjaaDoor
open Go.RowKit

theorem upAt_le (x : Th) : upAt x ≤ x.q.length := by
  unfold upAt
  exact (List.takeWhile_sublist _).length_le
theorem insL_len (l : HM) (k : Nat) (y : Int × Int) (hk : k ≤ l.length) : (insL l k y).length = l.length + 1 := by
  unfold insL
  simp only [List.length_append, List.length_cons, List.length_take, List.length_drop]
  omega

theorem rtake_waits {w W : World} {L : List Res} {b : Nat} {t : Tab} (hg : Good t) (h : Int) (n : ByteArray) (want : Int) (ha : ¬ (h < 1 ∨ 1000 < h ∨ 64 < n.size ∨ want < 1 ∨ 2 < want)) (hs : Sep w W (refRes b t :: L))
    (hwt : waitsM t h = none) {x : Th} (hx : getT t n = some x) (hm : ¬ want ≤ modeL x.has h) (hgt : gets x h want = false) :
    Calls Tryd.prog 14 #[.pointer (some ⟨b, 0, none⟩), .int .i64 h, .string n, .int .i64 want] W fun e W' => e = .returned (.int .i64 120) ∧ Sep w W' (refRes b (lo t n ++ takeT x h want :: hi t n) :: L) := by
  have a1 : ¬ h < 1 := by omega
  have a2 : ¬ 1000 < h := by omega
  have a3 : ¬ (64 : Int) < (n.size : Int) := by omega
  have a4 : ¬ want < 1 := by omega
  have a5 : ¬ 2 < want := by omega
  have HW := rWaits_any hg h hs
  have HM := rMode_any hg h n hs
  have HF := rfind_at hg.len (find_hit hg hx) hs
  rw [hwt] at HW
  have hmm : modeM t h n = modeL x.has h := by unfold modeM; rw [hx]
  rw [hmm] at HM
  obtain ⟨hxn, hxt, hsp⟩ := getT_some hg hx
  have hgx := hg.each x hxt
  obtain ⟨p, q, tv, hs0, ht⟩ := ref_open hs
  obtain ⟨ta, vh, vq, tb, rfl, hta, htb⟩ := tv_hit ht hsp
  have hkl : (lo t n).length = ta.length := by rw [← hta, List.length_map]
  obtain ⟨k, hk⟩ : ∃ k, k = ta.length := ⟨_, rfl⟩
  rw [hkl, ← hk] at HF
  have hyk : (ta ++ (x, vh, vq) :: tb)[k]? = some (x, vh, vq) := tv_mid hk
  obtain ⟨g, rfl, _, _⟩ := ref_cells hs0 hyk
  have hkN : k < t.length := by
    have h1 := congrArg List.length ht
    rw [List.length_map, List.length_append, List.length_cons] at h1
    omega
  obtain ⟨N, hN⟩ : ∃ N, N = t.length := ⟨_, rfl⟩
  rw [← hN] at hs0 hkN
  have hlN : N ≤ 256 := by rw [hN]; exact hg.len
  have hlh := modes_len1 hgx.has
  have hlq := modes_len1 hgx.q
  have HFR := rfree_any W x.name vq (ref_held hs0 hyk).1 (by omega) h want
  obtain ⟨a, haQ⟩ : ∃ a, a = atQ x h := ⟨_, rfl⟩
  have hal : a ≤ x.q.length := by rw [haQ]; exact atQ_le x h
  have e : takeT x h want = ⟨x.name, x.has, insL x.q a (h, want)⟩ := by unfold takeT; rw [hgt, if_neg (by simp), ← haQ]
  have hif : a = if 0 < modeL x.has h then upAt x else x.q.length := haQ
  have hfr : freeL x.has h want = false ∨ (freeL x.has h want = true ∧ modeL x.has h ≤ 0 ∧ x.q.length ≠ 0) := by
    cases hf : freeL x.has h want with
    | false => exact .inl rfl
    | true =>
      refine .inr ⟨rfl, ?_⟩
      unfold gets at hgt
      rw [hf, Bool.true_and, Bool.or_eq_false_iff, decide_eq_false_iff_not] at hgt
      refine ⟨by omega, fun h0 => ?_⟩
      rw [List.eq_nil_of_length_eq_zero h0] at hgt
      exact absurd hgt.2 (by simp)
  have HEND : ∀ (V : World) (p6 : Option Addr) (q6 m : Nat) (xs : List Value), m = x.q.length + 1 → xs = wCells (insL x.q a (h, want)) → Sep w V (rowRes 76 2 (.slice p6 m q6) m xs :: openR b (some ⟨g, 0, none⟩) N q (ta ++ (x, vh, vq) :: tb) L) → Sep w (V.setCell ⟨g, k * 3 + 2, none⟩ (.slice p6 m q6)) (refRes b (lo t n ++ takeT x h want :: hi t n) :: L) := by
    intro V p6 q6 m xs hm hx hv
    subst hx
    have h1 := ref_setQ hv (by rw [hm, insL_len _ _ _ hal]) hk
    rw [e]
    refine ref_shut h1 ?_ ?_
    · rw [hN]; conv => lhs; rw [hsp]
      rw [List.length_append, List.length_append]; rfl
    · rw [List.map_append, List.map_cons, hta, htb]
  rcases (ref_held hs0 hyk).2 with ⟨rfl, hq⟩ | ⟨g2, o2, cq, rfl, _, hlc, _, _⟩
  · rw [hq] at hal hfr
    have ha0 : a = 0 := Nat.le_zero.1 hal
    subst ha0
    have hq0 : x.q.length = 0 := by rw [hq]; rfl
    refine rtw_n a1 a2 a3 a4 a5 HW HM HF HFR (rfl : x.name = x.name) hm (by simpa using hfr) hs0 hyk hkN hlN hq0 (by omega) (by exact hlh) (by rw [hq0] at hif; exact hif) ?_
    intro V p6 q6 m xs hm hx hv
    exact HEND V p6 q6 m xs (by rw [hm, hq0]) hx hv
  · obtain ⟨NQ, hNQ⟩ : ∃ NQ, NQ = x.q.length := ⟨_, rfl⟩
    rw [← hNQ] at hal hfr hif HEND hlc HFR hs0 hyk hlq
    by_cases hac : a < cq
    · exact rtw_s a1 a2 a3 a4 a5 HW HM HF HFR (rfl : x.name = x.name) hm hfr hs0 hyk hkN hlN hNQ.symm hlq hlh hif hac hlc hal HEND
    · have e1 : cq = a := by omega
      have e2 : NQ = a := by omega
      subst e1 e2
      exact rtw_e a1 a2 a3 a4 a5 HW HM HF HFR (rfl : x.name = x.name) hm hfr hs0 hyk hkN hlN hNQ.symm hlq hlh hif HEND

theorem rtake_new {w W : World} {L : List Res} {b : Nat} {t : Tab} (hg : Good t) (h : Int) (n : ByteArray) (want : Int) (ha : ¬ (h < 1 ∨ 1000 < h ∨ 64 < n.size ∨ want < 1 ∨ 2 < want)) (hs : Sep w W (refRes b t :: L))
    (hwt : waitsM t h = none) (hx : getT t n = none) (hl6 : t.length ≠ 256) :
    Calls Tryd.prog 14 #[.pointer (some ⟨b, 0, none⟩), .int .i64 h, .string n, .int .i64 want] W fun e W' => e = .returned (.int .i64 0) ∧ Sep w W' (refRes b (lo t n ++ ⟨n, [(h, want)], []⟩ :: hi t n) :: L) := by
  have a1 : ¬ h < 1 := by omega
  have a2 : ¬ 1000 < h := by omega
  have a3 : ¬ (64 : Int) < (n.size : Int) := by omega
  have a4 : ¬ want < 1 := by omega
  have a5 : ¬ 2 < want := by omega
  have HW := rWaits_any hg h hs
  have HM := rMode_any hg h n hs
  have HF := rfind_at hg.len (find_miss hg hx) hs
  rw [hwt] at HW
  have hmm : modeM t h n = 0 := by unfold modeM; rw [hx]
  rw [hmm] at HM
  obtain ⟨_, hsp⟩ := getT_none hg hx
  obtain ⟨p, q, tv, hs0, ht⟩ := ref_open hs
  have hlen := hg.len
  obtain ⟨ta, tb, rfl, hta, htb⟩ : ∃ ta tb, tv = ta ++ tb ∧ ta.map Prod.fst = lo t n ∧ tb.map Prod.fst = hi t n := by
    obtain ⟨h1, h2, h3⟩ := tv_split ht hsp
    exact ⟨_, _, h1, h2, h3⟩
  have hkl : (lo t n).length = ta.length := by rw [← hta, List.length_map]
  have hkh : (hi t n).length = tb.length := by rw [← htb, List.length_map]
  have hab : t.length = ta.length + tb.length := by
    conv => lhs; rw [hsp]
    rw [List.length_append, hkl, hkh]
  have hnl : ∀ (A B : Tab) (x : Th), (A ++ x :: B).length = A.length + B.length + 1 := by intro A B x; rw [List.length_append, List.length_cons]; omega
  have hlt' : (lo t n ++ ⟨n, [(h, want)], []⟩ :: hi t n).length = t.length + 1 := by rw [hnl, hkl, hkh, hab]
  rcases hs0.up1.row.2 with ⟨h1, h2⟩ | ⟨g, cap, cur, hv, _, _, hc, _⟩
  · simp only [Value.slice.injEq] at h1
    obtain ⟨rfl, _, rfl⟩ := h1
    rw [h2] at hs0 hlt' hab
    have e1 : ta = [] := List.eq_nil_of_length_eq_zero (by omega)
    have e2 : tb = [] := List.eq_nil_of_length_eq_zero (by omega)
    subst e1 e2
    exact rtn_n a1 a2 a3 a4 a5 HW HM HF hs0 (by omega) (by show lo t n ++ _ :: hi t n = _; rw [← hta, ← htb]) hlt'
  · simp only [Value.slice.injEq] at hv
    obtain ⟨rfl, _, rfl⟩ := hv
    obtain ⟨a, haE⟩ : ∃ a, a = ta.length := ⟨_, rfl⟩
    have HLO : ∀ j, j < t.length → ∃ nm, W.cell? ⟨g, j * 3, none⟩ = some (.string nm) ∧ (j < a → ltB nm n) ∧ (j = a → ¬ ltB nm n) := by
      intro j hj
      obtain ⟨x, hxj⟩ : ∃ x, t[j]? = some x := ⟨_, List.getElem?_eq_getElem hj⟩
      obtain ⟨vh, vq, hy⟩ := tv_at ht hxj
      obtain ⟨_, e, ⟨c0, _, _⟩, _⟩ := ref_cells hs0 hy
      cases e
      refine ⟨x.name, c0, fun hja => ?_, fun hja => ?_⟩
      · obtain ⟨y, h3, h4⟩ := lo_at hg n (j := j) (by rw [hkl, ← haE]; exact hja)
        rw [hxj] at h3
        cases h3
        exact h4
      · refine ltB_asymm (hi_at hg hx (y := x) ?_)
        rw [hkl, ← haE, ← hja]
        exact hxj
    obtain ⟨N, hN⟩ : ∃ N, N = t.length := ⟨_, rfl⟩
    rw [← hN] at hs0 hlt' hab HLO hc hl6 hlen
    by_cases hac : a < q
    · exact rtn_s a1 a2 a3 a4 a5 HW HM HF hs0 (by omega) hac hc (by omega) haE (by show N - a = tb.length; omega) HLO (by rw [hta, htb]; rfl) hlt'
    · have e1 : q = a := by omega
      have e2 : N = a := by omega
      have e3 : tb = [] := List.eq_nil_of_length_eq_zero (by omega)
      subst e1 e2 e3
      exact rtn_e a1 a2 a3 a4 a5 HW HM HF hs0 (by omega) haE HLO (by show lo t n ++ _ :: hi t n = _; rw [← hta, ← htb]) hlt'

/-- The document's Take. -/
theorem rtake_any {w W : World} {L : List Res} {b : Nat} {t : Tab} (hg : Good t) (h : Int) (n : ByteArray) (want : Int) (hs : Sep w W (refRes b t :: L)) :
    Calls Tryd.prog 14 #[.pointer (some ⟨b, 0, none⟩), .int .i64 h, .string n, .int .i64 want] W fun e W' => e = .returned (.int .i64 ((takeM t h n want).1 : Nat)) ∧ Sep w W' (refRes b (takeM t h n want).2 :: L) := by
  by_cases ha : h < 1 ∨ 1000 < h ∨ 64 < n.size ∨ want < 1 ∨ 2 < want
  · have e : takeM t h n want = (1, t) := by unfold takeM; rw [if_pos ha]
    rw [e]
    refine (rtake_bad b h n want W ha).mono ?_
    rintro e W' ⟨rfl, rfl⟩
    exact ⟨rfl, hs⟩
  by_cases hst : (waitsM t h).isSome = true ∨ want ≤ modeM t h n ∨ (getT t n = none ∧ t.length = 256)
  · refine (rtake_stays hg h n want ha hs hst).mono ?_
    rintro e W' ⟨rfl, h2, rfl⟩
    rw [h2]
    exact ⟨rfl, hs⟩
  have h1 : ¬ (waitsM t h).isSome = true := fun q => hst (.inl q)
  have h2 : ¬ want ≤ modeM t h n := fun q => hst (.inr (.inl q))
  have h3 : ¬ (getT t n = none ∧ t.length = 256) := fun q => hst (.inr (.inr q))
  have hw : waitsM t h = none := by simpa using h1
  have e : takeM t h n want = (if gets ((getT t n).getD ⟨n, [], []⟩) h want then 0 else 120, lo t n ++ takeT ((getT t n).getD ⟨n, [], []⟩) h want :: hi t n) := by
    unfold takeM
    rw [if_neg ha, if_neg h1, if_neg h2, if_neg h3]
  rw [e]
  cases hx : getT t n with
  | none =>
    have hg1 : gets ⟨n, [], []⟩ h want = true := rfl
    have ht1 : takeT ⟨n, [], []⟩ h want = ⟨n, [(h, want)], []⟩ := by unfold takeT; rw [if_pos hg1]; rfl
    simp only [Option.getD_none, hg1, if_true, ht1]
    exact rtake_new hg h n want ha hs hw hx (fun q => h3 ⟨hx, q⟩)
  | some x =>
    have hm : ¬ want ≤ modeL x.has h := by
      have : modeM t h n = modeL x.has h := by unfold modeM; rw [hx]
      rw [← this]; exact h2
    cases hgt : gets x h want with
    | true =>
      simp only [Option.getD_some, hgt, if_true]
      exact rtake_gets hg h n want ha hs hw hx hm hgt
    | false =>
      simp only [Option.getD_some, hgt, Bool.false_eq_true, if_false]
      exact rtake_waits hg h n want ha hs hw hx hm hgt

end Go.Proofs.YtipfjjcokajjjaaDoor
