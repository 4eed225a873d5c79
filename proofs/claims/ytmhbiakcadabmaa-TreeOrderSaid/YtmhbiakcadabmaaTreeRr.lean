/-
  What is proved here: the document's tree: the keys between two; two lists compared (Same).
  No condition: each lemma names its own.
-/
import Derived.Test.YtmhbiakcadabmaaTreeX
set_option linter.unusedVariables false
set_option linter.unusedSimpArgs false
namespace Go.Proofs.Ytmhbiakcadabmaa
open Go.RowKit

/-- The entries L lie at p. -/
def EntsAt (W : World) (p : Option Addr) (L : List E) : Prop :=
  ∀ j x, L[j]? = some x → ∃ b o, p = some ⟨b, o, none⟩ ∧ b < W.heap.size ∧ W.cell? ⟨b, o + j * 2, none⟩ = some (.string x.1) ∧ W.cell? ⟨b, o + j * 2 + 1, none⟩ = some (.int .i64 x.2)
theorem EntsAt.only {W W' : World} {p : Option Addr} {L : List E} (h : EntsAt W p L) (ho : Only [] W W') : EntsAt W' p L := by
  intro j x hx
  obtain ⟨b, o, rfl, hb, c0, c1⟩ := h j x hx
  exact ⟨b, o, rfl, Nat.lt_of_lt_of_le hb ho.size, by rw [ho.cell hb (by simp)]; exact c0, by rw [ho.cell hb (by simp)]; exact c1⟩
theorem entsAt_row {W : World} {e : TypeId} {p : Option Addr} {n q : Nat} {L : List E} (h : W.ownsRow 0 e 2 (.slice p n q) n (cellsE L)) : EntsAt W p L := by
  intro j x hx
  obtain ⟨g, rfl, c0, c1, _, _⟩ := cells_at h hx
  exact ⟨g, 0, rfl, block_lt_of_cell c0, by rw [Nat.zero_add]; exact c0, by rw [Nat.zero_add]; exact c1⟩

/-- What came about in new blocks stands beside all that was. -/
theorem Sep.joinNew2 {w W W' : World} {l : List Res} {R : Res} (h : Sep w W l) (k : Sep W W' [R]) : Sep w W' (R :: l) := by
  obtain ⟨F, ⟨F1, F2, rfl, h1, h2, _⟩, ho, hw⟩ := k
  exact h.made h1 ho (fun x hx => hw x (List.mem_append_left _ hx))

theorem take_both {La Lb : List E} {i : Nat} {x y : E} (h : La.take i = Lb.take i) (hx : La[i]? = some x) (hy : Lb[i]? = some y) (he : x = y) : La.take (i + 1) = Lb.take (i + 1) := by
  rw [List.take_add_one, List.take_add_one, h, hx, hy, he]

set_option maxHeartbeats 2000000 in
theorem same_any {W : World} {pa pb : Option Addr} {qa qb : Nat} {La Lb : List E} (hA : EntsAt W pa La) (hB : EntsAt W pb Lb) (hla : La.length ≤ 100000) (hlb : Lb.length ≤ 100000) :
    Calls Try.prog 17 #[.slice pa La.length qa, .slice pb Lb.length qb] W fun r W' => r = .returned (.bool (decide (La = Lb))) ∧ Only [] W W' := by
  have HA := Lib.hid hA
  have HB := Lib.hid hB
  clear hA hB
  by_cases hl : La.length = Lb.length
  · have HL := Lib.hid hl
    have hlL : ((La.length : Int) != (Lb.length : Int)) = false := by rw [hl]; simp
    have hlL2 : (La.length : Int) = (Lb.length : Int) := by omega
    have HLL := Lib.hid hlL2
    clear hlL2 hl
    have mixed : Try.prog.follows .mixedOrders = true := by kernel_rfl
    go_enter Try.func17, Try.ntmps17
    go_wp2_with fail
    clear hlL
    go_loopw [5] (fun s5 wr => ∃ i : Nat, i ≤ La.length ∧ s5 = .int .i64 i ∧ La.take i = Lb.take i ∧ Only [] W wr) (fun s5 _ => La.length - (intOf s5).toNat)
    case atStart => exact ⟨0, Nat.zero_le _, rfl, by simp, Only.refl _ _⟩
    case round =>
      obtain ⟨i, hi, rfl, ht, ho⟩ := hrel
      have HT := Lib.hid ht
      have HO := Lib.hid ho
      clear ht ho
      by_cases hlt : i < La.length
      · have hltb : i < Lb.length := by have := HL.out; omega
        obtain ⟨x, hx⟩ : ∃ x, La[i]? = some x := ⟨_, List.getElem?_eq_getElem hlt⟩
        obtain ⟨y, hy⟩ : ∃ y, Lb[i]? = some y := ⟨_, List.getElem?_eq_getElem hltb⟩
        obtain ⟨ba, oa, rfl, _, a0, a1⟩ := (HA.out.only HO.out) i x hx
        obtain ⟨bb, ob, rfl, _, b0, b1⟩ := (HB.out.only HO.out) i y hy
        have HX := Lib.hid hx
        have HY := Lib.hid hy
        clear hx hy
        by_cases hk : x.1 = y.1
        · have k1 := text_eq hk
          have k2 : (x.1.toList != y.1.toList) = false := by rw [bne, k1]; rfl
          by_cases hv : x.2 = y.2
          · have v1 : (x.2 == y.2) = true := by rw [hv]; simp
            have v2 : (x.2 != y.2) = false := by rw [bne, v1]; rfl
            have HE := Lib.hid (show x = y from Prod.ext hk hv)
            clear hk hv
            go_wp2_with fail
            go_quiet (fail)
            go_wp2_with fail
            go_roundw
            case rel => exact ⟨i + 1, by omega, by go_num, take_both HT.out HX.out HY.out HE.out, HO.out.trans (Only.drewN [] _ _) (Within.nil _ _)⟩
            case measure => simp [intOf]; omega
          · have v1 : (x.2 == y.2) = false := by rw [beq_eq_false_iff_ne]; exact hv
            have v2 : (x.2 != y.2) = true := by rw [bne, v1]; rfl
            have HE : Hid (decide (La = Lb) = false) := by
              rw [decide_eq_false_iff_not]
              intro e
              subst e
              have h1 := HX.out; have h2 := HY.out
              rw [h1] at h2; cases h2; exact hv rfl
            clear hk hv
            go_wp2_with fail
            go_quiet (fail)
            go_wp2_with fail
            go_ret
            exact ⟨by rw [HE.out]; rfl, HO.out.trans (Only.drewN [] _ _) (Within.nil _ _)⟩
        · have k1 := text_ne hk
          have k2 : (x.1.toList != y.1.toList) = true := by rw [bne, k1]; rfl
          have HE : Hid (decide (La = Lb) = false) := by
            rw [decide_eq_false_iff_not]
            intro e
            subst e
            have h1 := HX.out; have h2 := HY.out
            rw [h1] at h2; cases h2; exact hk rfl
          clear hk
          go_wp2_with fail
          go_quiet (fail)
          go_wp2_with fail
          go_ret
          exact ⟨by rw [HE.out]; rfl, HO.out.trans (Only.drewN [] _ _) (Within.nil _ _)⟩
      · have HE : Hid (decide (La = Lb) = true) := by
          rw [decide_eq_true_eq]
          have h1 := HT.out
          rw [List.take_of_length_le (by omega), List.take_of_length_le (by have := HL.out; omega)] at h1
          exact h1
        go_wp2_with fail
        go_ret
        exact ⟨by rw [HE.out]; rfl, HO.out⟩
  · have hl2 : ((La.length : Int) != (Lb.length : Int)) = true := by rw [bne_iff_ne]; omega
    have HE : Hid (decide (La = Lb) = false) := by
      rw [decide_eq_false_iff_not]
      intro e; exact hl (by rw [e])
    have hl3 : ¬ ((La.length : Int) = (Lb.length : Int)) := by omega
    clear hl
    go_enter Try.func17, Try.ntmps17
    go_wp2_with fail
    go_ret
    exact ⟨by rw [HE.out]; rfl, Only.refl _ _⟩

/-! ## Range -/

theorem runL_cons (upto : ByteArray) (most : Int) (e : E) (l acc : List E) : runL upto most (e :: l) acc = if (fnR upto most acc e).2 then runL upto most l (fnR upto most acc e).1 else ((fnR upto most acc e).1, false) := rfl

set_option maxRecDepth 100000 in
set_option maxHeartbeats 4000000 in
theorem rrange_any {w W : World} {b : Nat} {L : List E} {l : List Res} (hs : Sep w W l) (hr : RefAt W b L) (hl : L.length ≤ 100000) (key upto : ByteArray) (most : Int) :
    Calls Try.prog 19 #[.pointer (some ⟨b, 0, none⟩), .string key, .string upto, .int .i64 most] W fun r W' =>
      ∃ p' q', r = .returned (.slice p' (rangeL L key upto most).length q') ∧ Sep w W' (rowRes 50 2 (.slice p' (rangeL L key upto most).length q') (rangeL L key upto most).length (cellsE (rangeL L key upto most)) :: l) ∧ Only [] W W' := by
  obtain ⟨ie, IE⟩ := info_of Try.infoREnt
  obtain ⟨p, q, hb, hrow⟩ := hr.open
  have k0 := cell_of_block hb 0 (v := .slice p L.length q) rfl
  have HK0 := Lib.hid k0
  have HR := Lib.hid hr
  have HROW := Lib.hid hrow
  have hbl := below_le L key
  have HSW := Lib.hid hs
  have HS0 : Hid (Sep W W [rowRes 50 2 (.slice none 0 0) 0 []]) := (Sep.nil W).row_nil _ _
  have hto : upto = ⟨#[]⟩ ∨ (upto.toList = [] → False) := by
    by_cases h2 : upto = ⟨#[]⟩
    · exact .inl h2
    · right
      intro q
      exact h2 (by
        rw [Lib.toList_data] at q
        cases upto
        simp only [ByteArray.mk.injEq]
        exact Array.toList_inj.1 q)
  have HTO := Lib.hid hto
  clear hb hr hrow hs k0 hto
  go_enter Try.func19, Try.ntmps19
  go_wp2_with fail
  refine (rat_any HR.out hl key).mono ?_
  rintro r w1 ⟨rfl, rfl⟩
  go_wp2_with fail
  go_loopw [9, 10] (fun s9 s10 wr => ∃ (k : Nat) (acc : List E) (pp : Option Addr) (qq : Nat), below L key ≤ k ∧ k ≤ L.length ∧ s10 = .int .i64 k ∧ s9 = .slice pp acc.length qq ∧ acc.length ≤ k ∧ (runL upto most (L.drop k) acc).1 = rangeL L key upto most ∧ Sep W wr [rowRes 50 2 (.slice pp acc.length qq) acc.length (cellsE acc)]) (fun _ s10 _ => L.length - (intOf s10).toNat)
  case atStart => exact ⟨below L key, [], none, 0, Nat.le_refl _, hbl, rfl, rfl, Nat.zero_le _, rfl, HS0.out⟩
  case round =>
    obtain ⟨k, acc, pp, qq, hk1, hk2, rfl, rfl, hac, hrun, hs⟩ := hrel
    have HRUN := Lib.hid hrun
    have HS := Lib.hid hs
    have k0 := (HS.out.old.cell (block_lt_of_cell HK0.out) (by simp)).trans HK0.out
    have hfin : ∀ (a : List E), a = rangeL L key upto most → a = acc → ∃ p' q', (Ending.returned (Value.slice pp acc.length qq)) = Ending.returned (Value.slice p' (rangeL L key upto most).length q') ∧ Sep w wr (rowRes 50 2 (.slice p' (rangeL L key upto most).length q') (rangeL L key upto most).length (cellsE (rangeL L key upto most)) :: l) ∧ Only [] W wr := by
      intro a h1 h2
      rw [← h1, h2]
      exact ⟨pp, qq, rfl, HSW.out.joinNew2 HS.out, HS.out.old⟩
    have HFIN := Lib.hid hfin
    clear hrun hs hfin
    by_cases hlt : k < L.length
    · obtain ⟨x, hx⟩ : ∃ x, L[k]? = some x := ⟨_, List.getElem?_eq_getElem hlt⟩
      obtain ⟨g, rfl, c0, c1, _, _⟩ := cells_at HROW.out hx
      have d0 := (HS.out.old.cell (block_lt_of_cell c0) (by simp)).trans c0
      have d1 := (HS.out.old.cell (block_lt_of_cell c1) (by simp)).trans c1
      have hdrop : L.drop k = x :: L.drop (k + 1) := by
        obtain ⟨h1, h2⟩ := List.getElem?_eq_some_iff.1 hx
        rw [List.drop_eq_getElem_cons h1, h2]
      have HD := Lib.hid hdrop
      clear hx c0 c1 hdrop
      have hstop : (fnR upto most acc x).2 = false → acc = rangeL L key upto most := by
        intro h
        have h1 := HRUN.out
        rw [HD.out, runL_cons, if_neg (by rw [h]; decide)] at h1
        rw [← h1]
        unfold fnR at h ⊢
        split
        · rfl
        · rename_i hc; rw [if_neg hc] at h; cases h
      have hgo : (fnR upto most acc x) = (acc ++ [x], true) → (runL upto most (L.drop (k + 1)) (acc ++ [x])).1 = rangeL L key upto most := by
        intro h
        have h1 := HRUN.out
        rw [HD.out, runL_cons, h, if_pos rfl] at h1
        exact h1
      have HSTOP := Lib.hid hstop
      have HGO := Lib.hid hgo
      clear hstop hgo
      by_cases h1 : most ≤ (acc.length : Int)
      · have HV := Lib.hid (HSTOP.out (by unfold fnR; rw [if_pos (.inl h1)]))
        have h1' : ¬ ((acc.length : Int) < most) := by omega
        clear h1
        go_wp2_with fail
        go_ret
        exact HFIN.out _ HV.out.symm.symm rfl
      · have h1' : (acc.length : Int) < most := by omega
        have hcont : fnR upto most acc x = (acc ++ [x], true) → True := fun _ => trivial
        by_cases h2 : upto = ⟨#[]⟩
        · subst h2
          have HV := Lib.hid (HGO.out (by unfold fnR; rw [if_neg (by simp [h1])]))
          clear h1
          go_wp2_with (at_builtin; go_must (refine wpList_append_sep (w := W) (e := 50) (cs := #[.string x.1, .int .i64 x.2]) rfl (.tmp 45) (.tmp 53) 31 rfl ie _ 2 24 Try.underlying31 IE.out rfl (by decide) _ acc.length (cellsE acc) rfl rfl (by simp) rfl ?one HS.out (by unfold maxLen; omega) (by omega) ?_))
          case one => simp [Value.oneCell']
          intro p2 q2 w2 hs4
          have HS4 := Lib.hid (show Sep W w2 [rowRes 50 2 (.slice p2 (acc.length + 1) q2) (acc.length + 1) (cellsE (acc ++ [x]))] from by
            rw [cellsE_append]; exact hs4)
          clear hs4
          go_wp2_with fail
          go_roundw
          case rel => exact ⟨k + 1, acc ++ [x], p2, q2, by omega, by omega, by go_num, by simp, by simp; omega, HV.out, by simpa using HS4.out⟩
          case measure => simp [intOf]; omega
        · have h2l := HTO.out.resolve_left h2
          have h2e : upto.toList.isEmpty = false := by cases hh : upto.toList with
            | nil => exact absurd hh h2l
            | cons _ _ => rfl
          have h2l' : ¬ upto.toList = [] := h2l
          by_cases h3 : ltB x.1 upto
          · have b1 := less_true h3
            have HV := Lib.hid (HGO.out (by unfold fnR; rw [if_neg (by simp [h1, h3])]))
            clear h3 h1
            go_wp2_with (at_builtin; go_must (refine wpList_append_sep (w := W) (e := 50) (cs := #[.string x.1, .int .i64 x.2]) rfl (.tmp 45) (.tmp 53) 31 rfl ie _ 2 24 Try.underlying31 IE.out rfl (by decide) _ acc.length (cellsE acc) rfl rfl (by simp) rfl ?one HS.out (by unfold maxLen; omega) (by omega) ?_))
            case one => simp [Value.oneCell']
            intro p2 q2 w2 hs4
            have HS4 := Lib.hid (show Sep W w2 [rowRes 50 2 (.slice p2 (acc.length + 1) q2) (acc.length + 1) (cellsE (acc ++ [x]))] from by
              rw [cellsE_append]; exact hs4)
            clear hs4
            go_wp2_with fail
            go_roundw
            case rel => exact ⟨k + 1, acc ++ [x], p2, q2, by omega, by omega, by go_num, by simp, by simp; omega, HV.out, by simpa using HS4.out⟩
            case measure => simp [intOf]; omega
          · have b1 := less_false h3
            have HV := Lib.hid (HSTOP.out (by unfold fnR; rw [if_pos (.inr ⟨h2, h3⟩)]))
            clear h3 h1
            go_wp2_with fail
            go_ret
            exact HFIN.out _ HV.out rfl
    · have HV : Hid (acc = rangeL L key upto most) := by
        have h1 := HRUN.out
        rw [List.drop_of_length_le (by omega)] at h1
        exact h1
      go_wp2_with fail
      go_ret
      exact HFIN.out _ HV.out rfl

end Go.Proofs.Ytmhbiakcadabmaa
