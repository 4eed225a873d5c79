/-
  What is proved here: the document's tree: the keys between two; two lists compared (Same).
  No condition: each lemma names its own.
-/
import Derived.Test.YtpaffpiaoanegaaTreeX
set_option linter.unusedVariables false
set_option linter.unusedSimpArgs false
namespace Go.Proofs.Ytpaffpiaoanegaa
open Go.RowKit

/-- The entries L lie at p. -/
def EntsAt (W : World) (p : Option Addr) (L : List E) : Prop :=
  ∀ j x, L[j]? = some x → ∃ b o, p = some ⟨b, o, none⟩ ∧ b < W.heap.size ∧ W.cell? ⟨b, o + j * 2, none⟩ = some (.string x.1) ∧ W.cell? ⟨b, o + j * 2 + 1, none⟩ = some (.int .i64 x.2)
theorem EntsAt.only {W W' : World} {p : Option Addr} {L : List E} (h : EntsAt W p L) (ho : Only [] W W') : EntsAt W' p L := by
  intro j x hx
  obtain ⟨b, o, rfl, hb, c0, c1⟩ := h j x hx
  exact ⟨b, o, rfl, Nat.lt_of_lt_of_le hb ho.size, by rw [ho.cell hb (by simp)]; exact c0, by rw [ho.cell hb (by simp)]; exact c1⟩
theorem entsAt_row {W : World} {e : TypeId} {p : Option Addr} {n q : Nat} {L : List E} (h : W.ownsRow 0 e 2 (.slice p n q) n (cellsE L)) : EntsAt W p L := by
  intro j x hx
  obtain ⟨g, rfl, c0, c1, _, _⟩ := cells_at h hx
  exact ⟨g, 0, rfl, block_lt_of_cell c0, by rw [Nat.zero_add]; exact c0, by rw [Nat.zero_add]; exact c1⟩

/-- What came about in new blocks stands beside all that was. -/
theorem Sep.joinNew2 {w W W' : World} {l : List Res} {R : Res} (h : Sep w W l) (k : Sep W W' [R]) : Sep w W' (R :: l) := by
  obtain ⟨F, ⟨F1, F2, rfl, h1, h2, _⟩, ho, hw⟩ := k
  exact h.made h1 ho (fun x hx => hw x (List.mem_append_left _ hx))

theorem take_both {La Lb : List E} {i : Nat} {x y : E} (h : La.take i = Lb.take i) (hx : La[i]? = some x) (hy : Lb[i]? = some y) (he : x = y) : La.take (i + 1) = Lb.take (i + 1) := by
  rw [List.take_add_one, List.take_add_one, h, hx, hy, he]

set_option maxHeartbeats 2000000 in
theorem same_any {W : World} {pa pb : Option Addr} {qa qb : Nat} {La Lb : List E} (hA : EntsAt W pa La) (hB : EntsAt W pb Lb) (hla : La.length ≤ 100000) (hlb : Lb.length ≤ 100000) :
    Calls Try.prog 15 #[.slice pa La.length qa, .slice pb Lb.length qb] W fun r W' => r = .returned (.bool (decide (La = Lb))) ∧ Only [] W W' := by
  have HA := Lib.hid hA
  have HB := Lib.hid hB
  clear hA hB
  by_cases hl : La.length = Lb.length
  · have HL := Lib.hid hl
    have hlL : ((La.length : Int) != (Lb.length : Int)) = false := by rw [hl]; simp
    have hlL2 : (La.length : Int) = (Lb.length : Int) := by omega
    have HLL := Lib.hid hlL2
    clear hlL2 hl
    have mixed : Try.prog.follows .mixedOrders = true := by kernel_rfl
    go_enter Try.func15, Try.ntmps15
    go_wp2_with fail
    clear hlL
    go_loopw [5] (fun s5 wr => ∃ i : Nat, i ≤ La.length ∧ s5 = .int .i64 i ∧ La.take i = Lb.take i ∧ Only [] W wr) (fun s5 _ => La.length - (intOf s5).toNat)
    case atStart => exact ⟨0, Nat.zero_le _, rfl, by simp, Only.refl _ _⟩
    case round =>
      obtain ⟨i, hi, rfl, ht, ho⟩ := hrel
      have HT := Lib.hid ht
      have HO := Lib.hid ho
      clear ht ho
      by_cases hlt : i < La.length
      · have hltb : i < Lb.length := by have := HL.out; omega
        obtain ⟨x, hx⟩ : ∃ x, La[i]? = some x := ⟨_, List.getElem?_eq_getElem hlt⟩
        obtain ⟨y, hy⟩ : ∃ y, Lb[i]? = some y := ⟨_, List.getElem?_eq_getElem hltb⟩
        obtain ⟨ba, oa, rfl, _, a0, a1⟩ := (HA.out.only HO.out) i x hx
        obtain ⟨bb, ob, rfl, _, b0, b1⟩ := (HB.out.only HO.out) i y hy
        have HX := Lib.hid hx
        have HY := Lib.hid hy
        clear hx hy
        by_cases hk : x.1 = y.1
        · have k1 := text_eq hk
          have k2 : (x.1.toList != y.1.toList) = false := by rw [bne, k1]; rfl
          by_cases hv : x.2 = y.2
          · have v1 : (x.2 == y.2) = true := by rw [hv]; simp
            have v2 : (x.2 != y.2) = false := by rw [bne, v1]; rfl
            have HE := Lib.hid (show x = y from Prod.ext hk hv)
            clear hk hv
            go_wp2_with fail
            go_quiet (fail)
            go_wp2_with fail
            go_roundw
            case rel => exact ⟨i + 1, by omega, by go_num, take_both HT.out HX.out HY.out HE.out, HO.out.trans (Only.drewN [] _ _) (Within.nil _ _)⟩
            case measure => simp [intOf]; omega
          · have v1 : (x.2 == y.2) = false := by rw [beq_eq_false_iff_ne]; exact hv
            have v2 : (x.2 != y.2) = true := by rw [bne, v1]; rfl
            have HE : Hid (decide (La = Lb) = false) := by
              rw [decide_eq_false_iff_not]
              intro e
              subst e
              have h1 := HX.out; have h2 := HY.out
              rw [h1] at h2; cases h2; exact hv rfl
            clear hk hv
            go_wp2_with fail
            go_quiet (fail)
            go_wp2_with fail
            go_ret
            exact ⟨by rw [HE.out]; rfl, HO.out.trans (Only.drewN [] _ _) (Within.nil _ _)⟩
        · have k1 := text_ne hk
          have k2 : (x.1.toList != y.1.toList) = true := by rw [bne, k1]; rfl
          have HE : Hid (decide (La = Lb) = false) := by
            rw [decide_eq_false_iff_not]
            intro e
            subst e
            have h1 := HX.out; have h2 := HY.out
            rw [h1] at h2; cases h2; exact hk rfl
          clear hk
          go_wp2_with fail
          go_quiet (fail)
          go_wp2_with fail
          go_ret
          exact ⟨by rw [HE.out]; rfl, HO.out.trans (Only.drewN [] _ _) (Within.nil _ _)⟩
      · have HE : Hid (decide (La = Lb) = true) := by
          rw [decide_eq_true_eq]
          have h1 := HT.out
          rw [List.take_of_length_le (by omega), List.take_of_length_le (by have := HL.out; omega)] at h1
          exact h1
        go_wp2_with fail
        go_ret
        exact ⟨by rw [HE.out]; rfl, HO.out⟩
  · have hl2 : ((La.length : Int) != (Lb.length : Int)) = true := by rw [bne_iff_ne]; omega
    have HE : Hid (decide (La = Lb) = false) := by
      rw [decide_eq_false_iff_not]
      intro e; exact hl (by rw [e])
    have hl3 : ¬ ((La.length : Int) = (Lb.length : Int)) := by omega
    clear hl
    go_enter Try.func15, Try.ntmps15
    go_wp2_with fail
    go_ret
    exact ⟨by rw [HE.out]; rfl, Only.refl _ _⟩

/-! ## Range -/

theorem runL_cons (upto : ByteArray) (most : Int) (e : E) (l acc : List E) : runL upto most (e :: l) acc = if (fnR upto most acc e).2 then runL upto most l (fnR upto most acc e).1 else ((fnR upto most acc e).1, false) := rfl

end Go.Proofs.Ytpaffpiaoanegaa
