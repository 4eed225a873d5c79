/-
  What is proved here: the document's bulk: Last, Add; entries as the document has them (own).
  No condition: each lemma names its own.
-/
import Derived.Test.YtpaffpiaoanegaaBulkF
import Derived.Test.YtpaffpiaoanegaaTreeCp
set_option linter.unusedVariables false
set_option linter.unusedSimpArgs false
namespace Go.Proofs.Ytpaffpiaoanegaa
open Go.RowKit

def rbParts (b : Nat) (L : List E) (x : Option Addr × Nat) : List Res :=
  [blkRes b (.cells #[.slice x.1 L.length x.2] 54 (0, 0)), rowRes 46 2 (.slice x.1 L.length x.2) L.length (cellsE L)]
/-- The document's bulk. -/
def rbRes (b : Nat) (L : List E) : Res := exRes (rbParts b L) (fun _ => True)
def RbAt (W : World) (b : Nat) (L : List E) : Prop := ∃ p q, W.heap[b]? = some (.cells #[.slice p L.length q] 54 (0, 0)) ∧ W.ownsRow 0 46 2 (.slice p L.length q) L.length (cellsE L)
theorem Sep.rb {w W : World} {b : Nat} {L : List E} {l : List Res} (hs : Sep w W (rbRes b L :: l)) : RbAt W b L := by
  obtain ⟨⟨p, q⟩, hs1, _⟩ := hs.open
  simp only [rbParts, List.cons_append, List.nil_append] at hs1
  exact ⟨p, q, hs1.blk, hs1.up1.row⟩
theorem RbAt.cell0 {W : World} {b : Nat} {L : List E} (h : RbAt W b L) : ∃ p q, W.cell? ⟨b, 0, none⟩ = some (.slice p L.length q) ∧ EntsAt W p L := by
  obtain ⟨p, q, hb, hrow⟩ := h
  exact ⟨p, q, cell_of_block hb 0 (v := .slice p L.length q) rfl, entsAt_row hrow⟩
theorem rb_new {w W : World} {l : List Res} (h : Sep w W l) : Sep w (W.alloc (.cells #[.slice none 0 0] 54)) (rbRes W.heap.size [] :: l) := by
  have h1 := (h.alloc #[.slice none 0 0] 54).row_nil 46 2
  exact Sep.close (ps := rbParts W.heap.size []) (none, 0) h1.up1 trivial

theorem ents_src {W : World} {p : Option Addr} {l : List E} (h : EntsAt W p l) : ∀ j u, (cellsE l)[j]? = some u → ∃ b o, p = some ⟨b, o, none⟩ ∧ W.cell? ⟨b, o + j, none⟩ = some u := by
  intro j u hu
  have hj := (List.getElem?_eq_some_iff.1 hu).1
  rw [cellsE_length] at hj
  obtain ⟨x, hx⟩ : ∃ x, l[j / 2]? = some x := ⟨_, List.getElem?_eq_getElem (by omega)⟩
  obtain ⟨b, o, hp, _, c0, c1⟩ := h (j / 2) x hx
  have hg := cellsE_get hx
  refine ⟨b, o, hp, ?_⟩
  rcases (by omega : j / 2 * 2 = j ∨ j / 2 * 2 + 1 = j) with hc | hc
  · rw [hc] at hg c0
    rw [hg.1] at hu
    cases hu; exact c0
  · have e : o + j / 2 * 2 + 1 = o + j := by omega
    have hg2 := hg.2
    rw [hc] at hg2
    rw [e] at c1
    rw [hg2] at hu
    cases hu; exact c1

theorem last_get {L : List E} (h : L ≠ []) : ∃ x, L[L.length - 1]? = some x ∧ lastK L = some x.1 := by
  have hl : 0 < L.length := List.length_pos_iff.2 h
  refine ⟨L[L.length - 1], List.getElem?_eq_getElem (by omega), ?_⟩
  unfold lastK
  rw [List.getLast?_eq_getElem?, List.getElem?_eq_getElem (by omega)]
  rfl

set_option maxRecDepth 100000 in
set_option maxHeartbeats 1600000 in
theorem rblast_any {W : World} {b : Nat} {L : List E} (h : RbAt W b L) (hl : L.length ≤ 100000) :
    Calls Try.prog 20 #[.pointer (some ⟨b, 0, none⟩)] W fun r W' => r = .returned (.tuple #[.string (lastS L), .bool (lastK L).isSome]) ∧ Only [] W W' := by
  have mixed : Try.prog.follows .mixedOrders = true := by kernel_rfl
  obtain ⟨p, q, k0, hE⟩ := h.cell0
  clear h
  by_cases h0 : L = []
  · subst h0
    simp only [List.length_nil] at k0
    go_enter Try.func20, Try.ntmps20
    go_wp2_with fail
    go_ret2
    exact ⟨rfl, Only.refl _ _⟩
  · obtain ⟨x, hx, hk⟩ := last_get h0
    obtain ⟨g, o, rfl, _, c0, c1⟩ := hE _ x hx
    have HS : Hid (lastS L = x.1) := by show _ = _; unfold lastS; rw [hk]; rfl
    have hn : ((L.length : Int) == 0) = false := by rw [beq_eq_false_iff_ne]; intro hc; exact h0 (List.eq_nil_of_length_eq_zero (by omega))
    have hn2 : (L.length == 0) = false := by rw [beq_eq_false_iff_ne]; intro hc; exact h0 (List.eq_nil_of_length_eq_zero hc)
    have hp : 1 ≤ L.length := List.length_pos_iff.2 h0
    have hw1 : ((L.length : Int) - 1).toNat = L.length - 1 := by omega
    have hw2 : IntKind.i64.wrap ((L.length : Int) - 1) = (L.length : Int) - 1 := IntWalk.i64_in _ (by omega)
    have hw3 : (0 : Int) ≤ (L.length : Int) - 1 := by omega
    rw [HS.out, hk]
    clear hk hx h0 hE
    go_enter Try.func20, Try.ntmps20
    go_wp2_with fail
    go_quiet (fail)
    go_wp2_with fail
    go_ret2
    exact ⟨rfl, Only.drewN [] _ _⟩

theorem ord_step {A : List E} {i : Nat} {x : E} (hx : A[i]? = some x) :
    ordB (lastK (A.take i)) (A.drop i) = ((match lastK (A.take i) with | none => true | some k => decide (ltB k x.1)) && ordB (lastK (A.take (i + 1))) (A.drop (i + 1))) := by
  rw [drop_at hx, List.take_add_one, hx]
  have : lastK (A.take i ++ (some x).toList) = some x.1 := lastK_snoc _ _
  rw [this]
  cases lastK (A.take i) <;> rfl

theorem lastK_take {A : List E} {i : Nat} {y : E} (hy : A[i]? = some y) : lastK (A.take (i + 1)) = some y.1 := by
  rw [List.take_add_one, hy]
  exact lastK_snoc _ _

set_option maxRecDepth 100000 in
set_option maxHeartbeats 4000000 in
theorem rbadd_any {w W : World} {rest : List Res} {b : Nat} {L : List E} (hs : Sep w W (rbRes b L :: rest)) {p : Option Addr} {l : List E} (q : Nat) (hE : EntsAt W p l) (hL : L.length ≤ 100000) (hl : l.length ≤ 100000) :
    Calls Try.prog 18 #[.pointer (some ⟨b, 0, none⟩), .slice p l.length q] W fun r W' => r = .returned (.int .i64 (addR L l).2) ∧ Sep w W' (rbRes b (addR L l).1 :: rest) := by
  obtain ⟨ie, IE⟩ := info_of Try.infoREnt
  have mixed : Try.prog.follows .mixedOrders = true := by kernel_rfl
  have HE := Lib.hid hE
  have HS := Lib.hid hs
  clear hs hE
  go_enter Try.func18, Try.ntmps18
  go_wp2_with fail
  go_loopw [5] (fun s5 wr => ∃ i : Nat, i ≤ l.length ∧ s5 = .int .i64 i ∧ longB (l.drop i) = longB l ∧ W = wr) (fun s5 _ => l.length - (intOf s5).toNat)
  case atStart => exact ⟨0, Nat.zero_le _, rfl, rfl, rfl⟩
  case round =>
    obtain ⟨i, hi, rfl, hlo, rfl⟩ := hrel
    have HLO := Lib.hid hlo; clear hlo
    by_cases hlt : i < l.length
    · obtain ⟨e, he⟩ : ∃ e, l[i]? = some e := ⟨_, List.getElem?_eq_getElem hlt⟩
      obtain ⟨bb, o, rfl, _, e0, e1⟩ := HE.out i e he
      have HLC := Lib.hid ((longB_cons he).symm.trans HLO.out)
      clear he
      by_cases hbig : 4096 < e.1.size
      · have HR := Lib.hid (addR_long (L := L) (l := l) (by rw [← HLC.out, decide_eq_true hbig]; rfl))
        go_wp2_with fail
        go_ret
        exact ⟨by rw [HR.out]; rfl, by rw [HR.out]; exact HS.out⟩
      · have HLN : Hid (longB (l.drop (i + 1)) = longB l) := by have := HLC.out; rw [decide_eq_false hbig, Bool.false_or] at this; exact this
        go_wp2_with fail
        go_roundw
        case rel => exact ⟨i + 1, by omega, by go_num, HLN.out, trivial⟩
        case measure => simp [intOf]; omega
    · have HNL : Hid (longB l = false) := by have := HLO.out; rw [List.drop_eq_nil_of_le (by omega)] at this; rw [← this]; rfl
      clear HLO
      obtain ⟨rp, rq, hrb, hrow⟩ := HS.out.rb
      have hs4 : Sep W (W.alloc (.cells #[] 46)) [rowRes 46 2 (.slice (some ⟨W.heap.size, 0, none⟩) 0 0) 0 []] := (Sep.nil W).row_made _ 2
      have HBC := Lib.hid (cell_of_block hrb 0 (v := .slice rp L.length rq) rfl)
      have k0 := (hs4.old.cell (block_lt_of_cell HBC.out) (by simp)).trans HBC.out
      have HSRC := Lib.hid (ents_src ((entsAt_row hrow).only hs4.old))
      have HS4 := Lib.hid hs4
      clear hs4 hrb hrow
      go_wp2_with (at_builtin; go_must (refine wpList_append_src (w := W) (e := 46) rfl (.tmp 21) (.tmp 25) 39 rfl ie _ 2 24 Try.underlying39 IE.out rfl (by decide) _ 0 [] rfl rp L.length rq (cellsE L) rfl (by rw [cellsE_length]) HSRC.out (cellsE_one L) HS4.out (by unfold maxLen; omega) (by omega) ?_))
      intro pr qr w5 hs5
      try rw [Nat.zero_add] at hs5
      try rw [List.nil_append] at hs5
      try rw [Nat.zero_add]
      have HS5 := Lib.hid hs5
      have HE5 := Lib.hid (ents_src (HE.out.only hs5.old))
      clear hs5 k0
      go_wp2_with (at_builtin; go_must (refine wpList_append_src (w := W) (e := 46) rfl (.tmp 26) (.tmp 27) 39 rfl ie _ 2 24 Try.underlying39 IE.out rfl (by decide) _ L.length (cellsE L) rfl p l.length q (cellsE l) rfl (by rw [cellsE_length]) HE5.out (cellsE_one l) HS5.out (by unfold maxLen; omega) (by omega) ?_))
      intro pa qa w6 hs6
      rw [← cellsE_append] at hs6
      have HS6 := Lib.hid hs6
      have k6 := (hs6.old.cell (block_lt_of_cell HBC.out) (by simp)).trans HBC.out
      clear hs6 HS5 HS4 HSRC HE5
      go_wp2_with fail
      clear k6
      obtain ⟨A, hA⟩ : ∃ A, A = L ++ l := ⟨_, rfl⟩
      have hAl : A.length = L.length + l.length := by rw [hA, List.length_append]
      have HAD : Hid (A.take L.length = L ∧ A.drop L.length = l) := by constructor <;> rw [hA] <;> simp
      have HA := Lib.hid hA
      have HEN := Lib.hid (show EntsAt w6 pa A from by rw [hA]; exact entsAt_row HS6.out.row)
      clear hA
      go_loopw [7] (fun s7 wr => ∃ i : Nat, L.length ≤ i ∧ i ≤ A.length ∧ s7 = .int .i64 i ∧ ordB (lastK (A.take i)) (A.drop i) = ordB (lastK L) l ∧ Only [] w6 wr) (fun s7 _ => A.length - (intOf s7).toNat)
      case atStart => exact ⟨L.length, Nat.le_refl _, by omega, rfl, by rw [HAD.out.1, HAD.out.2], Only.refl _ _⟩
      case round =>
        obtain ⟨i, hiL, hi, rfl, hord, ho⟩ := hrel
        have HOR := Lib.hid hord
        have HO := Lib.hid ho
        clear hord ho
        by_cases hlt : i < A.length
        · obtain ⟨x, hx⟩ : ∃ x, A[i]? = some x := ⟨_, List.getElem?_eq_getElem hlt⟩
          obtain ⟨b1, o1, rfl, _, x0, x1⟩ := (HEN.out.only HO.out) i x hx
          have HST := Lib.hid ((ord_step hx).symm.trans HOR.out)
          clear hx x1
          by_cases hi0 : i = 0
          · subst hi0
            have HNX : Hid (ordB (lastK (A.take (0 + 1))) (A.drop (0 + 1)) = ordB (lastK L) l) := by
              have h2 := HST.out
              rw [List.take_zero, lastK_nil] at h2
              simp only [Bool.true_and] at h2
              exact h2
            go_wp2_with fail
            go_quiet (fail)
            go_wp2_with fail
            go_roundw
            case rel => exact ⟨0 + 1, by omega, by omega, by go_num, HNX.out, HO.out.trans (Only.drewN [] _ _) (Within.nil _ _)⟩
            case measure => simp [intOf]; omega
          · obtain ⟨j, rfl⟩ : ∃ j, i = j + 1 := ⟨i - 1, by omega⟩
            obtain ⟨y, hy⟩ : ∃ y, A[j]? = some y := ⟨_, List.getElem?_eq_getElem (by omega)⟩
            obtain ⟨b2, o2, e2, _, y0, y1⟩ := (HEN.out.only HO.out) j y hy
            simp only [Option.some.injEq, Addr.mk.injEq, and_true] at e2
            obtain ⟨rfl, rfl⟩ := e2
            have HLT := Lib.hid (lastK_take hy)
            clear hy y1 hi0
            have hcj : ((j + 1 : Nat) : Int) = (j : Int) + 1 := by omega
            have hw1 : ((j : Int) + 1 - 1) = (j : Int) := by omega
            have hg0 : decide ((0 : Int) < (j : Int) + 1) = true := by rw [decide_eq_true_eq]; omega
            have hj1 : (j : Int) + 1 < (A.length : Int) := by omega
            have hj2 : (j : Int) < (A.length : Int) := by omega
            have hj3 : (0 : Int) ≤ (j : Int) + 1 := by omega
            have hw2 : ((j : Int) + 1).toNat = j + 1 := by omega
            by_cases hyx : ltB y.1 x.1
            · have l1 := less_true hyx
              have l2 := less_false (ltB_asymm hyx)
              have l3 := text_ne (ltB_ne hyx)
              have l4 := text_ne (ltB_ne hyx).symm
              have HNX : Hid (ordB (lastK (A.take (j + 1 + 1))) (A.drop (j + 1 + 1)) = ordB (lastK L) l) := by
                have h2 := HST.out
                rw [HLT.out] at h2
                simp only [decide_eq_true hyx, Bool.true_and] at h2
                exact h2
              clear hyx
              rw [hcj]
              go_wp2_with fail
              go_quiet (fail)
              go_wp2_with fail
              go_roundw
              case rel => exact ⟨j + 1 + 1, by omega, by omega, by go_num, HNX.out, HO.out.trans (Only.drewN [] _ _) (Within.nil _ _)⟩
              case measure => simp [intOf]; omega
            · have HR := Lib.hid (addR_order (L := L) HNL.out (by have h2 := HST.out; rw [HLT.out] at h2; simp only [decide_eq_false hyx, Bool.false_and] at h2; exact h2.symm))
              by_cases hek : x.1 = y.1
              · have l1 : Op.bytesLess y.1.toList x.1.toList = false := less_false hyx
                have l2 : Op.bytesLess x.1.toList y.1.toList = false := less_false (by rw [hek]; exact ltB_irrefl _)
                have l3 := text_eq hek
                have l4 := text_eq hek.symm
                clear hyx hek
                rw [hcj]
                go_wp2_with fail
                go_quiet (fail)
                go_wp2_with fail
                all_goals
                  go_ret
                  exact ⟨by rw [HR.out]; rfl, by rw [HR.out]; exact HS.out.only ((HS6.out.old.trans HO.out (Within.nil _ _)).trans (Only.drewN [] _ _) (Within.nil _ _))⟩
              · have hxy : ltB x.1 y.1 := Decidable.byContradiction fun hc => hek (ltB_tri hc hyx)
                have l1 : Op.bytesLess y.1.toList x.1.toList = false := less_false hyx
                have l2 := less_true hxy
                have l3 := text_ne hek
                have l4 := text_ne (fun h => hek h.symm)
                clear hyx hek hxy
                rw [hcj]
                go_wp2_with fail
                go_quiet (fail)
                go_wp2_with fail
                all_goals
                  go_ret
                  exact ⟨by rw [HR.out]; rfl, by rw [HR.out]; exact HS.out.only ((HS6.out.old.trans HO.out (Within.nil _ _)).trans (Only.drewN [] _ _) (Within.nil _ _))⟩
        · have HOK : Hid (ordB (lastK L) l = true) := by
            have h2 := HOR.out
            rw [List.drop_eq_nil_of_le (by omega)] at h2
            rw [← h2]; cases lastK (List.take i A) <;> rfl
          by_cases hm : 4096 < L.length + l.length
          · have HR := Lib.hid (addR_many HNL.out HOK.out hm)
            go_wp2_with fail
            go_ret
            exact ⟨by rw [HR.out]; rfl, by rw [HR.out]; exact HS.out.only (HS6.out.old.trans HO.out (Within.nil _ _))⟩
          · have HR := Lib.hid (addR_ok HNL.out HOK.out hm)
            have HJ := (HS.out.joinNew2 HS6.out).only HO.out
            obtain ⟨⟨p3, q3⟩, hj1, _⟩ := (HJ.up1).open
            simp only [rbParts, List.cons_append, List.nil_append] at hj1
            have kb := cell_of_block hj1.blk 0 (v := .slice p3 L.length q3) rfl
            have zb := free_of_block hj1.blk 0
            have hj2 : Sep w (wr.setCell ⟨b, 0, none⟩ (.slice pa (L.length + l.length) qa)) (blkRes b (.cells #[.slice pa (L.length + l.length) qa] 54 (0, 0)) :: _) := hj1.store 0 (.slice pa (L.length + l.length) qa)
            have hj3 := (hj2.up1).tail
            have HFIN : Hid (Sep w (wr.setCell ⟨b, 0, none⟩ (.slice pa (L.length + l.length) qa)) (rbRes b (L ++ l) :: rest)) := by
              refine Sep.close (ps := rbParts b (L ++ l)) (pa, qa) ?_ trivial
              simp only [rbParts, List.cons_append, List.nil_append, List.length_append]
              exact hj3
            clear hj1 hj2 hj3 HJ
            go_wp2_with fail
            go_ret
            exact ⟨by rw [HR.out]; rfl, by rw [HR.out]; exact HFIN.out⟩
end Go.Proofs.Ytpaffpiaoanegaa
