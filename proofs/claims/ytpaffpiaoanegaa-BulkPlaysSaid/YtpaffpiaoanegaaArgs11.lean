/-
  What is proved here: how lists of entries, and lists of such lists, lie in memory as arguments; fair.
  No condition but that the argument reads as data.
-/
import Derived.Test.YtpaffpiaoanegaaBulkR
namespace Go.Proofs.Ytpaffpiaoanegaa
open Go.RowKit Go.ChangeShapes Go.WideShapes Go.Deep

/-- The lists ll of entries lie at p. -/
def EntssAt (w : World) (p : Option Addr) (ll : List (List E)) : Prop :=
  ∀ k x, ll[k]? = some x → ∃ b o p' q', p = some ⟨b, o, none⟩ ∧ b < w.heap.size ∧ w.cell? ⟨b, o + k, none⟩ = some (.slice p' x.length q') ∧ ((x.length : Nat) : Int) ≤ 9223372036854775807 ∧ EntsAt w p' x

theorem EntssAt.only {w W : World} {p : Option Addr} {ll : List (List E)} (h : EntssAt w p ll) (ho : Only [] w W) : EntssAt W p ll := by
  intro k x hx
  obtain ⟨b, o, p', q', rfl, hb, hc, hl, he⟩ := h k x hx
  exact ⟨b, o, p', q', rfl, Nat.lt_of_lt_of_le hb ho.size, by rw [ho.cell hb (by simp)]; exact hc, hl, he.only ho⟩

section
variable {H : Type} {enc : TypeId × Value → H} {W : World}

set_option maxRecDepth 100000 in
theorem open_ents_at {sp : Nat → Bool} {held : Bool} {fuel : Nat} {v : Value} {x : DataW H × List MemPlace} (h : DataW.trod enc Try.prog W 0 sp held fuel 32 [v] = some x) :
    ∃ p l q, v = .slice p (List.length l) q ∧ ((List.length l : Nat) : Int) ≤ 9223372036854775807 ∧ EntsAt W p l := by
  rcases open_slice Try.underlying32 h with ⟨hcs, _⟩ | ⟨a, len, cap, m, n, D, Pl, hcs, _, hl, hm, hmm, _, hx⟩
  · simp only [List.cons.injEq, and_true] at hcs
    subst hcs
    exact ⟨none, [], 0, rfl, by simp, by intro k x hx; simp at hx⟩
  · simp only [List.cons.injEq, and_true] at hcs
    subst hcs
    have hlm : len ≤ m := by rw [hmm]; split <;> omega
    have hC : Try.prog.cellsOf 31 = 2 := by kernel_rfl
    have hread : ∀ i, i < len → ∃ y : E, W.cell? (a.add (i * 2)) = some (.string y.1) ∧ W.cell? (a.add (i * 2 + 1)) = some (.int .i64 y.2) := by
      intro i hi
      obtain ⟨cs', h1, h2⟩ := hx i (by omega)
      rw [hC] at h1
      obtain ⟨_, hlen, hat⟩ := World.cells?_some h1
      obtain ⟨xs, n', _, _, hcl, hxl, hf⟩ := DataW.trod_struct Try.underlying31 h2
      obtain ⟨c0, c1, rfl⟩ : ∃ c0 c1, cs' = [c0, c1] := by
        match cs', hlen with
        | [c0, c1], _ => exact ⟨c0, c1, rfl⟩
      have g0 : DataW.trod enc Try.prog W 0 sp held n' 9 ((([c0, c1] : List Value).drop 0).take (Try.prog.cellsOf 9)) = xs[0]? := hf 0 _ rfl
      have g1 : DataW.trod enc Try.prog W 0 sp held n' 2 ((([c0, c1] : List Value).drop 1).take (Try.prog.cellsOf 2)) = xs[1]? := hf 1 _ rfl
      have l0 : xs[0]? = some (xs[0]'(by rw [hxl]; decide)) := List.getElem?_eq_getElem _
      have l1 : xs[1]? = some (xs[1]'(by rw [hxl]; decide)) := List.getElem?_eq_getElem _
      rw [l0] at g0; rw [l1] at g1
      have k1 : Try.prog.cellsOf 9 = 1 := by kernel_rfl
      have k2 : Try.prog.cellsOf 2 = 1 := by kernel_rfl
      simp only [k1, k2, List.drop_zero, List.drop_succ_cons, List.take_succ_cons, List.take_zero] at g0 g1
      obtain ⟨y0, e0, _, w0⟩ := DataW.trod_string Try.underlying9 g0
      obtain ⟨y1, e1, _, _⟩ := DataW.trod_int Try.underlying2 g1
      simp only [List.cons.injEq, and_true] at e0 e1
      subst e0 e1
      have q0 := hat 0 (by omega)
      have q1 := hat 1 (by omega)
      rw [Go.Deep.add_add] at q0 q1
      refine ⟨(y0, y1), ?_, ?_⟩
      · simpa using q0
      · simpa using q1
    obtain ⟨l, hl1, hl2⟩ := list_of len hread
    subst hl1
    refine ⟨some a, l, cap, rfl, ?_, ?_⟩
    · simp [maxLen] at hm; omega
    · intro k x hkx
      have h0 : 0 < l.length := by have := (List.getElem?_eq_some_iff.1 hkx).1; omega
      have hz := (hl2 0 _ (List.getElem?_eq_getElem h0)).1
      rw [Nat.zero_mul, add_zero'] at hz
      obtain ⟨b, o, rfl, hb⟩ := addr_plain hz
      obtain ⟨c0, c1⟩ := hl2 k x hkx
      rw [add_at] at c0 c1
      exact ⟨b, o, rfl, hb, c0, c1⟩

set_option maxRecDepth 100000 in
theorem open_entss_at {sp : Nat → Bool} {held : Bool} {fuel : Nat} {v : Value} {x : DataW H × List MemPlace} (h : DataW.trod enc Try.prog W 0 sp held fuel 52 [v] = some x) :
    ∃ p l q, v = .slice p (List.length l) q ∧ ((List.length l : Nat) : Int) ≤ 9223372036854775807 ∧ EntssAt W p l := by
  rcases open_slice Try.underlying52 h with ⟨hcs, _⟩ | ⟨a, len, cap, m, n, D, Pl, hcs, _, hl, hm, hmm, _, hx⟩
  · simp only [List.cons.injEq, and_true] at hcs
    subst hcs
    exact ⟨none, [], 0, rfl, by simp, by intro k x hx; simp at hx⟩
  · simp only [List.cons.injEq, and_true] at hcs
    subst hcs
    have hlm : len ≤ m := by rw [hmm]; split <;> omega
    have hC : Try.prog.cellsOf 32 = 1 := by kernel_rfl
    have hread : ∀ i, i < len → ∃ y : List E, ∃ p' q', W.cell? (a.add i) = some (.slice p' y.length q') ∧ ((y.length : Nat) : Int) ≤ 9223372036854775807 ∧ EntsAt W p' y := by
      intro i hi
      obtain ⟨cs', h1, h2⟩ := hx i (by omega)
      rw [hC] at h1
      obtain ⟨_, hlen, hat⟩ := World.cells?_some h1
      obtain ⟨c0, rfl⟩ : ∃ c0, cs' = [c0] := by
        match cs', hlen with
        | [c0], _ => exact ⟨c0, rfl⟩
      obtain ⟨p', y, q', rfl, hy1, hy2⟩ := open_ents_at h2
      have h3 := hat 0 (by omega)
      rw [Go.Deep.add_add, Nat.mul_one] at h3
      exact ⟨y, p', q', by simpa using h3, hy1, hy2⟩
    obtain ⟨l, hl1, hl2⟩ := list_of len hread
    subst hl1
    refine ⟨some a, l, cap, rfl, ?_, ?_⟩
    · simp [maxLen] at hm; omega
    · intro k x hkx
      have h0 : 0 < l.length := by have := (List.getElem?_eq_some_iff.1 hkx).1; omega
      obtain ⟨p0, q0, hz, _⟩ := hl2 0 _ (List.getElem?_eq_getElem h0)
      rw [add_zero'] at hz
      obtain ⟨b, o, rfl, hb⟩ := addr_plain hz
      obtain ⟨p', q', hc, h1, h2⟩ := hl2 k x hkx
      exact ⟨b, o, p', q', rfl, hb, by rw [← add_at]; exact hc, h1, h2⟩
end

theorem open_ents {H : Type} {enc : TypeId × Value → H} {W : World} {sp : Nat → Bool} {v : Value} {d : DataW H} {ps : List MemPlace} (hv : ∃ a len cap, v = .slice a len cap) (h : DataW.Trod enc Try.prog W 0 sp true 32 v d ps) :
    ∃ p l q, v = .slice p (List.length l) q ∧ ((List.length l : Nat) : Int) ≤ 9223372036854775807 ∧ EntsAt W p l := by
  obtain ⟨a, len, cap, rfl⟩ := hv
  obtain ⟨fuel, hf⟩ := h
  exact open_ents_at hf
theorem open_entss {H : Type} {enc : TypeId × Value → H} {W : World} {sp : Nat → Bool} {v : Value} {d : DataW H} {ps : List MemPlace} (hv : ∃ a len cap, v = .slice a len cap) (h : DataW.Trod enc Try.prog W 0 sp true 52 v d ps) :
    ∃ p l q, v = .slice p (List.length l) q ∧ ((List.length l : Nat) : Int) ≤ 9223372036854775807 ∧ EntssAt W p l := by
  obtain ⟨a, len, cap, rfl⟩ := hv
  obtain ⟨fuel, hf⟩ := h
  exact open_entss_at hf

/-- Are the keys short, and few? -/
def fairL (l : List E) : Bool := decide (l.length ≤ 500) && l.all (fun x => decide (x.1.size ≤ 5000))
def fairE (ll : List (List E)) : Bool := ll.all fairL && decide (ll.length ≤ 30)
theorem fairE_true {ll : List (List E)} (h : fairE ll = true) : ll.length ≤ 30 ∧ ∀ x ∈ ll, x.length ≤ 500 := by
  unfold fairE at h
  simp only [Bool.and_eq_true, decide_eq_true_eq, List.all_eq_true] at h
  refine ⟨h.2, fun x hx => ?_⟩
  have := h.1 x hx
  unfold fairL at this
  simp only [Bool.and_eq_true, decide_eq_true_eq] at this
  exact this.1

set_option maxRecDepth 100000 in
set_option maxHeartbeats 2000000 in
theorem fair_any (p : Option Addr) (ll : List (List E)) (q : Nat) (w : World) (hl : ((ll.length : Nat) : Int) ≤ 9223372036854775807) (hst : EntssAt w p ll) :
    Calls Try.prog 17 #[.slice p ll.length q] w fun e w' => e = .returned (.bool (fairE ll)) ∧ w = w' := by
  have HST := Lib.hid hst; clear hst
  go_enter Try.func17, Try.ntmps17
  go_wp2_with fail
  go_loopw [3] (fun s3 wr => ∃ i : Nat, i ≤ ll.length ∧ s3 = .int .i64 i ∧ w = wr ∧ (ll.drop i).all fairL = ll.all fairL) (fun s3 _ => ll.length - (intOf s3).toNat)
  case atStart => exact ⟨0, Nat.zero_le _, rfl, rfl, rfl⟩
  case round =>
    obtain ⟨i, hi, rfl, rfl, ha⟩ := hrel
    by_cases hlt : i < ll.length
    · obtain ⟨x, hx⟩ : ∃ x, ll[i]? = some x := ⟨_, List.getElem?_eq_getElem hlt⟩
      obtain ⟨b, o, p', q', rfl, hb, c0, hxl, hents⟩ := HST.out i x hx
      rw [drop_at hx] at ha
      simp only [List.all_cons] at ha
      have HEN := Lib.hid hents
      clear hx hents
      by_cases h3 : 500 < x.length
      · have HF : Hid (fairE ll = false) := by
          show _ = _; unfold fairE; rw [← ha]; unfold fairL; rw [decide_eq_false (by omega)]; simp
        clear ha
        go_wp2_with fail
        go_ret
        exact ⟨by rw [HF.out]; rfl, rfl⟩
      · have HA := Lib.hid ha; clear ha
        have h3' : x.length ≤ 500 := by omega
        go_wp2_with fail
        go_loopw [4] (fun s4 wr => ∃ j : Nat, j ≤ x.length ∧ s4 = .int .i64 j ∧ w = wr ∧ (x.drop j).all (fun x => decide (x.1.size ≤ 5000)) = x.all (fun x => decide (x.1.size ≤ 5000))) (fun s4 _ => x.length - (intOf s4).toNat)
        case atStart => exact ⟨0, Nat.zero_le _, rfl, rfl, rfl⟩
        case round =>
          obtain ⟨j, hj, rfl, rfl, hja⟩ := hrel
          by_cases hjl : j < x.length
          · obtain ⟨y, hy⟩ : ∃ y, x[j]? = some y := ⟨_, List.getElem?_eq_getElem hjl⟩
            obtain ⟨b2, o2, rfl, hb2, d0, d1⟩ := HEN.out j y hy
            rw [drop_at hy] at hja
            simp only [List.all_cons] at hja
            clear hy
            by_cases h5 : 5000 < y.1.size
            · have HF : Hid (fairE ll = false) := by
                rw [decide_eq_false (by omega), Bool.false_and] at hja
                show _ = _; unfold fairE; rw [← HA.out]; unfold fairL; rw [← hja]; simp
              clear hja
              go_wp2_with fail
              go_ret
              exact ⟨by rw [HF.out]; rfl, rfl⟩
            · rw [decide_eq_true (by omega), Bool.true_and] at hja
              have HJ := Lib.hid hja; clear hja
              go_wp2_with fail
              go_roundw
              case rel => exact ⟨j + 1, by omega, by go_num, trivial, HJ.out⟩
              case measure => simp [intOf]; omega
          · have HNX : Hid ((ll.drop (i + 1)).all fairL = ll.all fairL) := by
              rw [List.drop_eq_nil_of_le (by omega)] at hja
              have h := HA.out
              show _ = _
              rw [← h]
              have : fairL x = true := by unfold fairL; rw [← hja, decide_eq_true h3']; rfl
              rw [this, Bool.true_and]
            clear hja
            go_wp2_with fail
            go_roundw
            case rel => exact ⟨i + 1, by omega, by go_num, trivial, HNX.out⟩
            case measure => simp [intOf]; omega
    · rw [List.drop_eq_nil_of_le (by omega)] at ha
      have HF : Hid (fairE ll = decide ((ll.length : Int) ≤ 30)) := by
        show _ = _
        unfold fairE
        rw [← ha, List.all_nil, Bool.true_and]
        by_cases h : ll.length ≤ 30
        · rw [decide_eq_true h, decide_eq_true (by omega)]
        · rw [decide_eq_false h, decide_eq_false (by omega)]
      clear ha
      go_wp2_with fail
      go_ret
      exact ⟨by rw [HF.out]; rfl, rfl⟩

end Go.Proofs.Ytpaffpiaoanegaa
