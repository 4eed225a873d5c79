/-
  What is proved here: the document's Compare answers as the plain law says ('cmpL'); a copy that may be appended to; Begins, Mod; what is said of good keys.
  Conditions: numbers are int64, lists are short.
-/
import Derived.Test.YtfnlgpngnknkmaaDoorKyO
import Derived.Test.YtfnlgpngnknkmaaDoorKyL
import Derived.Sort.Walk0
namespace Go.Proofs.YtfnlgpngnknkmaaDoor
open Go.RowKit Go.Proofs.YtfnlgpngnknkmaaDoor.F Go.Proofs.YtfnlgpngnknkmaaDoorW.PrintWords Go.Proofs.YtfnlgpngnknkmaaDoorW.PrintLast
set_option linter.unusedSimpArgs false
set_option linter.unusedVariables false

def cmp1 (a b : ValD) : Int := if a.kind < b.kind ∨ a.kind = b.kind ∧ (a.n < b.n ∨ a.n = b.n ∧ a.s.data.toList < b.s.data.toList) then -1 else if a.kind = b.kind ∧ a.n = b.n ∧ a.s.data.toList = b.s.data.toList then 0 else 1

theorem ref_cmp1 (a b : ValD) (k : Nat) : hedgerowref02_Compare.f (k + 1) a.kind a.n a.s b.kind b.n b.s = some (cmp1 a b) := by
  have hj : ∀ c : Bool, hedgerowref02_Compare.j0 (k + 1) c a.kind a.n a.s b.kind b.n b.s = if c = true then some (-1) else (if a.kind = b.kind then (if a.n = b.n then (if a.s.toList = b.s.toList then some 0 else some 1) else some 1) else some 1) := fun c => rfl
  unfold hedgerowref02_Compare.f cmp1
  simp only [hj, Lib.toList_data]
  by_cases h1 : a.kind < b.kind
  · rw [if_pos h1, if_pos trivial, if_pos (.inl h1)]
  · rw [if_neg h1]
    by_cases h2 : a.kind = b.kind
    · rw [if_pos h2]
      by_cases h3 : a.n < b.n
      · rw [if_pos h3, if_pos trivial, if_pos (.inr ⟨h2, .inl h3⟩)]
      · rw [if_neg h3]
        by_cases h4 : a.n = b.n
        · rw [if_pos h4, Go.Proofs.bytesLess_eq]
          by_cases h5 : a.s.data.toList < b.s.data.toList
          · rw [decide_eq_true h5, if_pos rfl, if_pos (.inr ⟨h2, .inr ⟨h4, h5⟩⟩)]
          · rw [decide_eq_false h5, if_neg (by decide), if_pos h2, if_pos h4]
            have hn : ¬ (a.kind < b.kind ∨ a.kind = b.kind ∧ (a.n < b.n ∨ a.n = b.n ∧ a.s.data.toList < b.s.data.toList)) := by
              rintro (h | ⟨_, h | ⟨_, h⟩⟩)
              · exact h1 h
              · exact h3 h
              · exact h5 h
            rw [if_neg hn]
            by_cases h6 : a.s.data.toList = b.s.data.toList
            · rw [if_pos h6, if_pos ⟨h2, h4, h6⟩]
            · rw [if_neg h6, if_neg (fun h => h6 h.2.2)]
        · rw [if_neg h4, if_neg (by decide), if_pos h2, if_neg h4]
          have hn : ¬ (a.kind < b.kind ∨ a.kind = b.kind ∧ (a.n < b.n ∨ a.n = b.n ∧ a.s.data.toList < b.s.data.toList)) := by
            rintro (h | ⟨_, h | ⟨h, _⟩⟩)
            · exact h1 h
            · exact h3 h
            · exact h4 h
          rw [if_neg hn, if_neg (fun h => h4 h.2.1)]
    · rw [if_neg h2, if_neg (by decide), if_neg h2]
      have hn : ¬ (a.kind < b.kind ∨ a.kind = b.kind ∧ (a.n < b.n ∨ a.n = b.n ∧ a.s.data.toList < b.s.data.toList)) := by
        rintro (h | ⟨h, _⟩)
        · exact h1 h
        · exact h2 h
      rw [if_neg hn, if_neg (fun h => h2 h.1)]

theorem cmpL_cons (a b : ValD) (l m : List ValD) : cmpL (a :: l) (b :: m) = if cmp1 a b = 0 then cmpL l m else cmp1 a b := by
  simp only [cmpL, cmp1]
  split
  · rw [if_neg (by decide)]
  · split
    · rw [if_pos rfl]
    · rw [if_neg (by decide)]

theorem ref_cmp (l m : List S45) (hl : l.length ≤ 1000000) (hm : m.length ≤ 1000000) : ∀ (d k i : Nat), i ≤ l.length → i ≤ m.length → l.length - i = d → 2 * d + 3 < k →
    hedgerowref03_Compare.l0 k l m (i : Int) = some (cmpL ((l.drop i).map vd) ((m.drop i).map vd)) := by
  intro d
  induction d with
  | zero =>
    intro k i hi hj hd hk
    obtain ⟨k, rfl⟩ : ∃ j, k = j + 2 := ⟨k - 2, by omega⟩
    simp only [hedgerowref03_Compare.l0, hedgerowref03_Compare.j1]
    rw [if_neg (by omega), if_neg (by decide), List.drop_of_length_le (l := l) (by omega)]
    by_cases h : l.length < m.length
    · rw [if_pos (by omega)]
      obtain ⟨y, hy⟩ : ∃ y, m[i]? = some y := ⟨_, List.getElem?_eq_getElem (by omega)⟩
      obtain ⟨hlt, _⟩ := List.getElem?_eq_some_iff.1 hy
      rw [List.drop_eq_getElem_cons hlt]
      rfl
    · rw [if_neg (by omega), if_neg (by omega), List.drop_of_length_le (l := m) (by omega)]
      rfl
  | succ d ih =>
    intro k i hi hj hd hk
    obtain ⟨k, rfl⟩ : ∃ j, k = j + 3 := ⟨k - 3, by omega⟩
    obtain ⟨x, hx⟩ : ∃ x, l[i]? = some x := ⟨_, List.getElem?_eq_getElem (by omega)⟩
    obtain ⟨hlt, hxe⟩ := List.getElem?_eq_some_iff.1 hx
    simp only [hedgerowref03_Compare.l0, hedgerowref03_Compare.j1]
    rw [if_pos (by omega)]
    by_cases h : i < m.length
    · obtain ⟨y, hy⟩ : ∃ y, m[i]? = some y := ⟨_, List.getElem?_eq_getElem (by omega)⟩
      obtain ⟨hlt2, hye⟩ := List.getElem?_eq_some_iff.1 hy
      rw [decide_eq_true (show (i : Int) < (m.length : Int) by omega), if_pos rfl, if_pos (by omega), if_pos (by omega), if_pos (by omega), rd_at hx, rd_at hy, w64n i (by omega)]
      have hc := ref_cmp1 (vd x) (vd y) k
      have hc' : hedgerowref02_Compare.f (k + 1) x.f0 x.f1 x.f2 y.f0 y.f1 y.f2 = some (cmp1 (vd x) (vd y)) := hc
      rw [hc', List.drop_eq_getElem_cons hlt, List.drop_eq_getElem_cons hlt2, hxe, hye]
      simp only [Option.bind_some, List.map_cons]
      rw [cmpL_cons]
      by_cases h0 : cmp1 (vd x) (vd y) = 0
      · rw [if_pos h0, if_pos h0]
        exact ih (k + 1) (i + 1) (by omega) (by omega) (by omega) (by omega)
      · rw [if_neg h0, if_neg h0]
    · rw [decide_eq_false (show ¬ (i : Int) < (m.length : Int) by omega), if_neg (by decide), if_neg (by omega), if_pos (by omega), List.drop_of_length_le (l := m) (by omega), List.drop_eq_getElem_cons hlt]
      rfl

theorem cmp_any (p p' : Option Addr) (q q' : Nat) (l m : List S45) (w : World) (h : ValsAt w p l) (h' : ValsAt w p' m) (hq : l.length ≤ q) (hq' : m.length ≤ q') (hl : l.length ≤ 1000000) (hm : m.length ≤ 1000000) :
    Calls Tryd.prog 20 #[.slice p l.length q, .slice p' m.length q'] w fun e w' => e = .returned (.int .i64 (cmpL (l.map vd) (m.map vd))) ∧ Only [] w w' := by
  have hc := ref_cmp l m hl hm l.length (2 * l.length + 4) 0 (by omega) (by omega) (by omega) (by omega)
  rw [List.drop_zero, List.drop_zero] at hc
  have hc' : hedgerowref03_Compare.f (2 * l.length + 4) l m = some (cmpL (l.map vd) (m.map vd)) := by unfold hedgerowref03_Compare.f; exact hc
  exact (hedgerowref03_Compare.calls _ p q l p' q' m _ w (h.kd (by omega)) hq (h'.kd (by omega)) hq' hc').mono fun _ _ ⟨h1, h2⟩ => ⟨h1, Only.of_below h2⟩

theorem vals_src {w : World} {p : Option Addr} {l : List S45} (h : ValsAt w p l) : ∀ j u, (valCells l)[j]? = some u → ∃ b o, p = some ⟨b, o, none⟩ ∧ w.cell? ⟨b, o + j, none⟩ = some u := by
  intro j u hu
  have hj : j < l.length * 3 := by rw [← valCells_length]; exact (List.getElem?_eq_some_iff.1 hu).1
  obtain ⟨x, hx⟩ : ∃ x, l[j / 3]? = some x := ⟨_, List.getElem?_eq_getElem (by omega)⟩
  obtain ⟨e0, e1, e2⟩ := valCells_at l (j / 3) x hx
  obtain ⟨b, o, e, _, c0, c1, c2⟩ := h (j / 3) x hx
  have : j = j / 3 * 3 ∨ j = j / 3 * 3 + 1 ∨ j = j / 3 * 3 + 2 := by omega
  rcases this with h3 | h3 | h3 <;> rw [h3] at hu ⊢
  · have e3 : j / 3 * 3 / 3 = j / 3 := by omega
    rw [e0] at hu; cases hu; exact ⟨b, o, e, c0⟩
  · rw [e1] at hu; cases hu; exact ⟨b, o, e, by rw [← Nat.add_assoc]; exact c1⟩
  · rw [e2] at hu; cases hu; exact ⟨b, o, e, by rw [← Nat.add_assoc]; exact c2⟩

set_option maxHeartbeats 1000000 in
/-- A copy, whose row the call owns. -/
theorem few_own (p : Option Addr) (q : Nat) (l : List S45) (w : World) (h : ValsAt w p l) (hl : l.length ≤ 1000000) :
    Calls Tryd.prog 12 #[.slice p l.length q] w fun e w' => ∃ p' q', e = .returned (.slice p' l.length q') ∧ Sep w w' [rowRes 45 3 (.slice p' l.length q') l.length (valCells l)] := by
  have H := Lib.hid h; clear h
  obtain ⟨iv, IV⟩ := info_of Tryd.infoVal
  go_enter Tryd.func12, Tryd.ntmps12
  go_wp2_with (at_builtin; go_must (refine wpList_append_src (e := 45) (w := w) (l := []) rfl (.tmp 3) (.tmp 4) 22 rfl iv _ 3 32 Tryd.underlying22 IV.out rfl (by decide) _ 0 [] rfl p l.length q (valCells l) rfl (valCells_length l) ?cells (valCells_one l) ((Sep.nil w).row_made 45 3) (by unfold maxLen; omega) (by omega) ?_))
  case cells => exact vals_src (H.out.only (Only.alloc [] w _))
  intro p' q' w' hs
  have HS := Lib.hid hs; clear hs
  go_wp2_with fail
  go_ret
  exact ⟨p', q', by simp, by simpa using HS.out⟩

end Go.Proofs.YtfnlgpngnknkmaaDoor
