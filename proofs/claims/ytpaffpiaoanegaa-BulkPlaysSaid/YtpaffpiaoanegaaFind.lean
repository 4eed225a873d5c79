/-
  What is proved here: a key is looked for among a node's keys ((*node).find, slices.BinarySearchFunc).
  No condition: each lemma names its own.
-/
import Derived.Test.YtpaffpiaoanegaaNode
import Derived.Test.YtpaffpiaoanegaaShelf
set_option linter.unusedVariables false
set_option linter.unusedSimpArgs false
namespace Go.Proofs.Ytpaffpiaoanegaa
open Go.RowKit

theorem cmp_lt : ∀ (a b : List UInt8), (Lib.compareBytes a b < 0 ↔ a < b) ∧ (Lib.compareBytes a b = 0 ↔ a = b)
  | [], [] => by simp [Lib.compareBytes]
  | [], _ :: _ => by simp [Lib.compareBytes]
  | _ :: _, [] => by simp [Lib.compareBytes]
  | a :: as', b :: bs => by
    obtain ⟨h1, h2⟩ := cmp_lt as' bs
    rw [Lib.compareBytes, List.cons_lt_cons_iff]
    by_cases hl : a < b
    · have hne : a ≠ b := fun q => by subst q; exact absurd hl (by simp)
      rw [if_pos hl]
      simp [hl, hne]
    · rw [if_neg hl]
      by_cases hg : b < a
      · have hne : a ≠ b := fun q => by subst q; exact absurd hg (by simp)
        rw [if_pos hg]
        simp [hl, hne]
      · rw [if_neg hg]
        have he : a = b := UInt8.le_antisymm (by simpa using hg) (by simpa using hl)
        subst he
        simp [h1, h2]

theorem compare_any (a b : ByteArray) (W : World) : Calls Try.prog 56 #[.string a, .string b] W fun e W' => e = .returned (.int .i64 (Lib.compareBytes a.data.toList b.data.toList)) ∧ W = W' :=
  (Try.strings_Compare a b W).mono (fun _ _ h => ⟨h.1, h.2.symm⟩)

theorem findfn_any (e : E) (key : ByteArray) (W : World) :
    Calls Try.prog 55 #[.agg #[.string e.1, .int .i64 e.2], .string key] W fun r W' => r = .returned (.int .i64 (Lib.compareBytes e.1.data.toList key.data.toList)) ∧ Only [] W W' := by
  go_enter Try.func55, Try.ntmps55
  go_wp2_with fail
  refine (compare_any e.1 key _).mono ?_
  rintro r w1 ⟨rfl, rfl⟩
  go_wp2_with fail
  go_ret
  exact ⟨rfl, Only.alloc [] W _⟩

theorem sorted_at {l : List E} (hs : Sorted l) {i j : Nat} {e f : E} (hij : i < j) (h1 : l[i]? = some e) (h2 : l[j]? = some f) : ltB e.1 f.1 := by
  obtain ⟨a1, a2⟩ := List.getElem?_eq_some_iff.1 h1
  obtain ⟨b1, b2⟩ := List.getElem?_eq_some_iff.1 h2
  have := List.pairwise_iff_getElem.1 hs i j a1 b1 hij
  rwa [a2, b2] at this

theorem here_val {ks : List E} {key : ByteArray} {i : Nat} {e : E} (hb : below ks key = i) (he : ks[i]? = some e) : (Lib.compareBytes e.1.data.toList key.data.toList == 0) = here ks key := by
  unfold here
  rw [hb, he, Bool.eq_iff_iff, beq_iff_eq, decide_eq_true_eq, (cmp_lt _ _).2]
  simp only [Option.map_some, Option.some.injEq]
  constructor
  · intro h
    cases h1 : e.1; cases h2 : key
    rw [h1, h2] at h
    simp only [ByteArray.mk.injEq]
    exact Array.toList_inj.1 h
  · intro h; rw [h]

set_option maxRecDepth 100000 in
set_option maxHeartbeats 1000000 in
theorem search_any {W : World} {kp : Option Addr} {kq : Nat} {ks : List E} (hrow : W.ownsRow 0 31 2 (.slice kp ks.length kq) ks.length (cellsE ks)) (hn : ks.length ≤ 100000) (hs : Sorted ks) (key : ByteArray) :
    Calls Try.prog 54 #[.slice kp ks.length kq, .string key, .func (Fn.func 55) #[] #[]] W fun r W' =>
      r = .returned (.tuple #[.int .i64 (below ks key), .bool (here ks key)]) ∧ Only [] W W' := by
  have HC := Lib.hid (fun (j : Nat) (e : E) (hj : ks[j]? = some e) => keyCells hrow hj)
  clear hrow
  have HSS := Lib.hid hs
  clear hs
  go_enter Try.func54, Try.ntmps54
  go_wp2_with fail

  go_loopw [9, 10] (fun s6 s7 wr => ∃ (i j : Nat), s6 = .int .i64 i ∧ s7 = .int .i64 j ∧ i ≤ j ∧ j ≤ ks.length ∧ (∀ t e, t < i → ks[t]? = some e → ltB e.1 key) ∧ (∀ t e, j ≤ t → ks[t]? = some e → ¬ ltB e.1 key) ∧ Only [] W wr) (fun s6 s7 _ => (intOf s7).toNat - (intOf s6).toNat)
  case atStart => exact ⟨0, ks.length, rfl, by go_num, by omega, by omega, by intro t e h; omega, by intro t e h1 h2; have := (List.getElem?_eq_some_iff.1 h2).1; omega, Only.refl _ _⟩
  case round =>
    obtain ⟨i, j, rfl, rfl, hij, hjn, hlo, hhi, how⟩ := hrel
    by_cases hlt : i < j
    · have hm1 : i ≤ (i + j) / 2 := by omega
      have hm2 : (i + j) / 2 < j := by omega
      obtain ⟨e, he⟩ : ∃ e, ks[(i + j) / 2]? = some e := ⟨_, List.getElem?_eq_getElem (by omega)⟩
      obtain ⟨g, hg, c1, c2⟩ := HC.out _ e he
      subst hg
      have k1 := (how.cell (block_lt_of_cell c1) (by simp)).trans c1
      have k2 := (how.cell (block_lt_of_cell c2) (by simp)).trans c2
      clear c1 c2
      have HLO := Lib.hid hlo; clear hlo
      have HHI := Lib.hid hhi; clear hhi
      have HE := Lib.hid he; clear he
      have HOW := Lib.hid how; clear how
      have hlt' : (i : Int) < (j : Int) := by omega
      go_wp2_with fail
      refine (findfn_any e key _).mono ?_
      rintro r w1 ⟨rfl, o1⟩
      have O1 := Lib.hid (HOW.out.trans o1 (Within.nil _ _)); clear o1
      by_cases hc : ltB e.1 key
      · have hcv : Lib.compareBytes e.1.data.toList key.data.toList < 0 := (cmp_lt _ _).1.2 hc
        go_wp2_with fail
        go_roundw
        case rel =>
          refine ⟨(i + j) / 2 + 1, j, by go_num, rfl, by omega, hjn, ?_, HHI.out, O1.out⟩
          intro t f ht hf
          rcases Nat.lt_or_ge t ((i + j) / 2) with q | q
          · exact ltB_trans (sorted_at HSS.out q hf HE.out) hc
          · have : t = (i + j) / 2 := by omega
            subst this
            rw [HE.out] at hf; cases hf; exact hc
        case measure => simp [intOf]; omega
      · have hcv : ¬ Lib.compareBytes e.1.data.toList key.data.toList < 0 := fun q => hc ((cmp_lt _ _).1.1 q)
        go_wp2_with fail
        go_roundw
        case rel =>
          refine ⟨i, (i + j) / 2, rfl, by go_num, hm1, by omega, HLO.out, ?_, O1.out⟩
          intro t f ht hf
          exact sorted_ge HSS.out ht HE.out hf hc
        case measure => simp [intOf]; omega
    · have hij2 : i = j := by omega
      subst hij2
      have hb : below ks key = i := below_is hjn hlo (fun e he => hhi i e (Nat.le_refl _) he)
      have HB := Lib.hid hb; clear hb
      have HOW := Lib.hid how; clear how
      clear hlo hhi
      by_cases hin : i < ks.length
      · obtain ⟨e, he⟩ : ∃ e, ks[i]? = some e := ⟨_, List.getElem?_eq_getElem hin⟩
        obtain ⟨g, hg, c1, c2⟩ := HC.out _ e he
        subst hg
        have k1 := (HOW.out.cell (block_lt_of_cell c1) (by simp)).trans c1
        have k2 := (HOW.out.cell (block_lt_of_cell c2) (by simp)).trans c2
        clear c1 c2
        have HE := Lib.hid he; clear he
        have hin' : (i : Int) < (ks.length : Int) := by omega
        go_wp2_with fail
        refine (findfn_any e key _).mono ?_
        rintro r w1 ⟨rfl, o1⟩
        have O1 := Lib.hid (HOW.out.trans o1 (Within.nil _ _)); clear o1
        go_wp2_with fail
        go_ret2
        exact ⟨by rw [here_val HB.out HE.out, HB.out]; rfl, O1.out⟩
      · have hh : here ks key = false := by
          unfold here
          rw [HB.out, List.getElem?_eq_none (by omega)]
          rfl
        have HH := Lib.hid hh; clear hh
        go_wp2_with fail
        go_ret2
        exact ⟨by rw [HH.out, HB.out]; rfl, HOW.out⟩

theorem ptrV_eq (q : Nat) : ptrV q = .pointer (some ⟨q, 0, none⟩) := rfl

/-- (*node).find: where the key stands among the node's own, and whether it does. -/
theorem find_any {h : Nat} {W : World} {p : Nat} {t : T} (hn : NodeAt h W p t) (hl : t.keys.length ≤ 100000) (hs : Sorted t.keys) (key : ByteArray) :
    Calls Try.prog 42 #[.pointer (some ⟨p, 0, none⟩), .string key] W fun r W' => r = .returned (.tuple #[.int .i64 (below t.keys key), .bool (here t.keys key)]) ∧ Only [] W W' := by
  obtain ⟨kp, kq, cp, cq, ps, h1, hb, hk, hc, _⟩ := hn.open
  have k0 := cell_of_block hb 0 (v := .slice kp t.keys.length kq) rfl
  have HK := Lib.hid hk
  clear hn hb hk hc
  go_enter Try.func42, Try.ntmps42
  go_wp2_with fail
  refine (search_any HK.out hl hs key).mono ?_
  rintro r w1 ⟨rfl, o1⟩
  have O1 := Lib.hid o1; clear o1
  go_wp2_with fail
  go_ret2
  exact ⟨rfl, O1.out⟩

end Go.Proofs.Ytpaffpiaoanegaa
