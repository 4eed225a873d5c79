/-
  What is proved here: a child with too few keys gets one of the one beside it, or both become one ((*node).fill of package tree).
  No condition: each lemma names its own.
-/
import Derived.Test.YtpaffpiaoanegaaTreeZ
set_option linter.unusedVariables false
set_option linter.unusedSimpArgs false
namespace Go.Proofs.Ytpaffpiaoanegaa
open Go.RowKit

/-- Two children that lie side by side, and the key between. -/
theorem T.cutTwo {t : T} (hl : t.kids.length = t.keys.length + 1) {j : Nat} (hj : j < t.keys.length) :
    ∃ ka e kb ca a b cb, t.keys = ka ++ e :: kb ∧ t.kids = ca ++ a :: b :: cb ∧ ka.length = j ∧ ca.length = j ∧ cb.length = kb.length ∧ t.kids[j]! = a ∧ t.kids[j + 1]! = b ∧ t.keys[j]! = e := by
  have h1 : j < t.kids.length := by omega
  have h2 : j + 1 < t.kids.length := by omega
  refine ⟨t.keys.take j, t.keys[j], t.keys.drop (j + 1), t.kids.take j, t.kids[j], t.kids[j + 1], t.kids.drop (j + 2), ?_, ?_, ?_, ?_, ?_, ?_, ?_, ?_⟩
  · rw [List.getElem_cons_drop, List.take_append_drop]
  · rw [List.getElem_cons_drop, List.getElem_cons_drop, List.take_append_drop]
  · rw [List.length_take]; omega
  · rw [List.length_take]; omega
  · rw [List.length_drop, List.length_drop]; omega
  · rw [getElem!_pos t.kids j h1]
  · rw [getElem!_pos t.kids (j + 1) h2]
  · rw [getElem!_pos t.keys j hj]

set_option maxRecDepth 100000 in
set_option maxHeartbeats 4000000 in
/-- Neither of the two beside it has a key to give. -/
theorem fill_join {w W : World} {l : List Res} {h p : Nat} {t : T} {i lst : Nat} (hs : Sep w W (nodeRes (h + 1) p t :: l)) (hl : t.kids.length = t.keys.length + 1) (hone : 1 ≤ t.keys.length) (hi : i < t.kids.length) (htn : t.keys.length ≤ 100) (hkn : ∀ c ∈ t.kids, c.keys.length ≤ 100 ∧ c.kids.length ≤ 101) (hlst : lst ≤ 100)
    (hprev : i = 0 ∨ ∃ c, t.kids[i - 1]? = some c ∧ c.keys.length ≤ lst) (hnext : t.kids.length = i + 1 ∨ ∃ c, t.kids[i + 1]? = some c ∧ c.keys.length ≤ lst) :
    Calls Try.prog 45 #[.pointer (some ⟨p, 0, none⟩), .int .i64 i, .int .i64 lst] W fun r W' => r = .returned (.tuple #[]) ∧ Sep w W' (nodeRes (h + 1) p (if 0 < i then glueT t (i - 1) else glueT t i) :: l) := by
  obtain ⟨kp, kq, cp, cq, ps, hpl, hs1⟩ := hs.nodeOpen
  have rP := hs1.up2.row
  obtain ⟨g, rfl, c1⟩ := kid_cell rP (i := i) (q := ps[i]'(by omega)) (List.getElem?_eq_getElem _)
  have hb := hs1.blk
  have p1 := cell_of_block hb 1 (v := .slice (some ⟨g, 0, none⟩) ps.length cq) rfl
  have HP : Hid (i = 0 ∨ ∃ (q' : Nat) (kp' : Option Addr) (n' kq' : Nat), 0 < i ∧ W.cell? ⟨g, i - 1, none⟩ = some (.pointer (some ⟨q', 0, none⟩)) ∧ W.cell? ⟨q', 0, none⟩ = some (.slice kp' n' kq') ∧ n' ≤ lst) := by
    rcases Nat.eq_zero_or_pos i with h0 | h0
    · exact .inl h0
    · right
      obtain ⟨c, hc1, hc2⟩ := hprev.resolve_left (by omega)
      obtain ⟨q', kp', kq', h1, h2⟩ := hs.node.peek hb hc1
      exact ⟨q', kp', _, kq', h0, h1, h2, hc2⟩
  have HN : Hid (ps.length = i + 1 ∨ ∃ (q' : Nat) (kp' : Option Addr) (n' kq' : Nat), i + 1 < ps.length ∧ W.cell? ⟨g, i + 1, none⟩ = some (.pointer (some ⟨q', 0, none⟩)) ∧ W.cell? ⟨q', 0, none⟩ = some (.slice kp' n' kq') ∧ n' ≤ lst) := by
    by_cases h0 : ps.length = i + 1
    · exact .inl h0
    · right
      obtain ⟨c, hc1, hc2⟩ := hnext.resolve_left (by omega)
      obtain ⟨q', kp', kq', h1, h2⟩ := hs.node.peek hb hc1
      exact ⟨q', kp', _, kq', by have := (List.getElem?_eq_some_iff.1 hc1).1; omega, h1, h2, hc2⟩
  have hips : i < ps.length := by omega
  have hpn : ps.length ≤ 101 := by omega
  have hJ : ∀ j, j < t.keys.length → Calls Try.prog 58 #[.pointer (some ⟨p, 0, none⟩), .int .i64 j] W fun r W' => r = .returned (.tuple #[]) ∧ Sep w W' (nodeRes (h + 1) p (glueT t j) :: l) := by
    intro j hj
    obtain ⟨ka, e, kb, ca, a, b, cb, h1, h2, h3, h4, _⟩ := T.cutTwo hl hj
    have ha := hkn a (by rw [h2]; simp)
    have hb := hkn b (by rw [h2]; simp)
    exact join_any hs h1 h2 h3 h4 htn (by omega) ha.1 hb.1 ha.2 hb.2
  have HJ := Lib.hid hJ
  have HKL := Lib.hid hl
  have HPL := Lib.hid hpl
  clear hs hs1 rP hb hprev hnext hJ hpl hkn c1 hl
  have hw1 : IntKind.i64.wrap ((i : Int) + 1) = (i : Int) + 1 := IntWalk.i64_in _ (by omega)
  have hw2 : (0 : Int) ≤ (i : Int) + 1 := by omega
  have hw3 : ((i : Int) + 1).toNat = i + 1 := by omega
  go_enter Try.func45, Try.ntmps45
  go_upto_region 1 with fail
  go_cut [14] (fun s14 wx => W = wx ∧ s14 = .bool false)
  case first =>
    rcases HP.out with h0 | ⟨q', kp', n', kq', h0, g1, g2, g3⟩
    · subst h0
      go_wp2_with fail
      go_meet
      exact ⟨rfl, rfl⟩
    · have u1 : ((i : Int) - 1).toNat = i - 1 := by omega
      have u2 : (0 : Int) ≤ (i : Int) - 1 := by omega
      have u3 : (i : Int) - 1 < (ps.length : Int) := by omega
      have u4 : ¬ ((lst : Int) < (n' : Int)) := by omega
      have u5 : i - 1 < ps.length := by omega
      go_wp2_with fail
      go_meet
      exact ⟨rfl, rfl⟩
  case rest =>
  obtain ⟨rfl, rfl⟩ := hcut
  go_upto_region 10 with fail
  go_cut [127] (fun s14 wx => W = wx ∧ s14 = .bool false)
  case first =>
    rcases HN.out with h0 | ⟨q', kp', n', kq', h0, g1, g2, g3⟩
    · have u4 : ¬ ((i : Int) + 1 < (ps.length : Int)) := by omega
      go_wp2_with fail
      go_meet
      exact ⟨rfl, rfl⟩
    · have u3 : (i : Int) + 1 < (ps.length : Int) := by omega
      have u4 : ¬ ((lst : Int) < (n' : Int)) := by omega
      go_wp2_with fail
      go_meet
      exact ⟨rfl, rfl⟩
  case rest =>
  obtain ⟨rfl, rfl⟩ := hcut
  by_cases h0 : 0 < i
  · have u2 : (0 : Int) < (i : Int) := by omega
    obtain ⟨j, hj⟩ : ∃ j, j = i - 1 := ⟨_, rfl⟩
    have hji : (i : Int) - 1 = (j : Int) := by omega
    have hjl : j < t.keys.length := by have := HKL.out; have := HPL.out; omega
    have HJI := Lib.hid hj
    clear hj
    go_wp2_with fail
    refine (HJ.out j hjl).mono ?_
    rintro r w5 ⟨rfl, hs7⟩
    have HF := Lib.hid hs7; clear hs7
    go_wp2_with fail
    go_end0
    refine ⟨rfl, ?_⟩
    have h9 := HF.out
    rw [HJI.out] at h9
    first | exact h9 | (rw [if_pos h0]; exact h9)
  · have h00 : i = 0 := by omega
    subst h00
    have hJ0 := HJ.out 0 (by omega)
    rw [show ((0 : Nat) : Int) = (0 : Int) from rfl] at hJ0
    have HJ0 := Lib.hid hJ0; clear hJ0
    go_wp2_with fail
    refine HJ0.out.mono ?_
    rintro r w5 ⟨rfl, hs7⟩
    have HF := Lib.hid hs7; clear hs7
    go_wp2_with fail
    go_end0
    refine ⟨rfl, ?_⟩
    first | exact HF.out | (rw [if_neg h0]; exact HF.out)

theorem fill_any {fan : Nat} {w W : World} {l : List Res} {h p : Nat} {t : T} {i : Nat} (h3 : 3 ≤ fan) (h64 : fan ≤ 64) (hs : Sep w W (nodeRes (h + 1) p t :: l)) (hl : t.kids.length = t.keys.length + 1) (hone : 1 ≤ t.keys.length) (hi : i < t.kids.length) (htn : t.keys.length ≤ 64) (hkd : ∀ c ∈ t.kids, Kd fan h c ∧ c.keys.length < fan) :
    Calls Try.prog 45 #[.pointer (some ⟨p, 0, none⟩), .int .i64 i, .int .i64 (least fan)] W fun r W' => r = .returned (.tuple #[]) ∧ Sep w W' (nodeRes (h + 1) p (fillT t i (least fan)) :: l) := by
  have hkk : ∀ c ∈ t.kids, c.kids.length = 0 ∨ c.kids.length = c.keys.length + 1 := by
    intro c hc
    have := (hkd c hc).1
    cases h with
    | zero => left; rw [show c.kids = [] from this]; rfl
    | succ h => right; exact this.1
  have hkb : ∀ c ∈ t.kids, c.keys.length ≤ 100 ∧ c.kids.length ≤ 101 := by
    intro c hc
    have h1 := (hkd c hc).2
    rcases hkk c hc with h2 | h2 <;> omega
  have hiff : ∀ c ∈ t.kids, ∀ d ∈ t.kids, (c.kids.length = 0 ↔ d.kids.length = 0) := by
    intro c hc d hd
    have h1 := (hkd c hc).1
    have h2 := (hkd d hd).1
    cases h with
    | zero => rw [show c.kids = [] from h1, show d.kids = [] from h2]
    | succ h => have := h1.1; have := h2.1; omega
  have hlst : least fan ≤ 100 := by unfold least; omega
  unfold fillT
  by_cases hL : 0 < i ∧ least fan < t.kids[i - 1]!.keys.length
  · rw [if_pos hL]
    obtain ⟨j, rfl⟩ : ∃ j, i = j + 1 := ⟨i - 1, by omega⟩
    obtain ⟨ka, e, kb, ca, a, b, cb, h1, h2, h3', h4, h5, ea, eb, ee⟩ := T.cutTwo hl (j := j) (by omega)
    rw [show j + 1 - 1 = j by omega] at hL ⊢
    have hla := hL.2
    rw [ea] at hla ⊢
    rw [eb, ee]
    have ha := hkb a (by rw [h2]; simp)
    have hb := hkb b (by rw [h2]; simp)
    have := fill_left (k := a.keys.length - 1) (lst := least fan) hs h1 h2 h3' h4 (by omega) (by omega) ha.1 hb.1 ha.2 hb.2 hlst rfl (by omega) hla (hkk a (by rw [h2]; simp))
    refine this.mono ?_
    rintro r w1 ⟨rfl, hs1⟩
    refine ⟨rfl, ?_⟩
    have e1 : ∀ x y, ((t.kids.set j x).set (j + 1) y) = ca ++ x :: y :: cb := by
      intro x y
      rw [h2, set_mid h4, show ca ++ x :: b :: cb = (ca ++ [x]) ++ b :: cb by simp, set_mid (by simp; omega)]
      simp
    rw [e1]
    exact hs1
  · rw [if_neg hL]
    have hprev : i = 0 ∨ ∃ c, t.kids[i - 1]? = some c ∧ c.keys.length ≤ least fan := by
      rcases Nat.eq_zero_or_pos i with h0 | h0
      · exact .inl h0
      · refine .inr ⟨t.kids[i - 1]!, ?_, ?_⟩
        · rw [getElem!_pos t.kids (i - 1) (by omega)]; exact List.getElem?_eq_getElem _
        · have : ¬ least fan < t.kids[i - 1]!.keys.length := fun q => hL ⟨h0, q⟩
          omega
    by_cases hR : i + 1 < t.kids.length ∧ least fan < t.kids[i + 1]!.keys.length
    · rw [if_pos hR]
      obtain ⟨ka, e, kb, ca, a, b, cb, h1, h2, h3', h4, h5, ea, eb, ee⟩ := T.cutTwo hl (j := i) (by omega)
      have hlb := hR.2
      rw [eb] at hlb ⊢
      rw [ea, ee]
      have ha := hkb a (by rw [h2]; simp)
      have hb := hkb b (by rw [h2]; simp)
      have := fill_right (lst := least fan) hs h1 h2 h3' h4 (by omega) (by omega) ha.1 hb.1 ha.2 hb.2 hlst rfl hprev hlb (hkk a (by rw [h2]; simp)) (hkk b (by rw [h2]; simp)) (hiff a (by rw [h2]; simp) b (by rw [h2]; simp))
      refine this.mono ?_
      rintro r w1 ⟨rfl, hs1⟩
      refine ⟨rfl, ?_⟩
      have e1 : ∀ x y, ((t.kids.set i x).set (i + 1) y) = ca ++ x :: y :: cb := by
        intro x y
        rw [h2, set_mid h4, show ca ++ x :: b :: cb = (ca ++ [x]) ++ b :: cb by simp, set_mid (by simp; omega)]
        simp
      rw [e1]
      exact hs1
    · rw [if_neg hR]
      refine fill_join hs hl hone hi (by omega) hkb hlst hprev ?_
      by_cases h0 : t.kids.length = i + 1
      · exact .inl h0
      · refine .inr ⟨t.kids[i + 1]!, ?_, ?_⟩
        · rw [getElem!_pos t.kids (i + 1) (by omega)]; exact List.getElem?_eq_getElem _
        · have : ¬ least fan < t.kids[i + 1]!.keys.length := fun q => hR ⟨by omega, q⟩
          omega

end Go.Proofs.Ytpaffpiaoanegaa
