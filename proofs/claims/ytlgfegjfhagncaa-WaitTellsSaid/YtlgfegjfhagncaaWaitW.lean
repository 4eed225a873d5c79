/-
  What is proved here: edges as rows and as arguments; few, same, wakes, Victim, Ints, Mod of the statements on waiting.
  Condition: there are at most 100000 edges.
-/
import Derived.Test.YtlgfegjfhagncaaWaitP
set_option linter.unusedSimpArgs false
set_option linter.unusedVariables false
namespace Go.Proofs.Ytlgfegjfhagncaa
open Go.RowKit Go.ChangeShapes Go.WideShapes Go.Deep

def edgeCells (l : Edges) : List Value := l.flatMap fun e => [.int .i64 e.1, .int .i64 e.2]
theorem edgeCells_cons (e : Int × Int) (l : Edges) : edgeCells (e :: l) = .int .i64 e.1 :: .int .i64 e.2 :: edgeCells l := rfl
theorem edgeCells_length (l : Edges) : (edgeCells l).length = l.length * 2 := by
  induction l with
  | nil => rfl
  | cons e l ih => rw [edgeCells_cons, List.length_cons, List.length_cons, List.length_cons, ih]; omega
theorem edgeCells_append (a b : Edges) : edgeCells (a ++ b) = edgeCells a ++ edgeCells b := by unfold edgeCells; rw [List.flatMap_append]
theorem edgeCells_one : ∀ (l : Edges), ∀ u ∈ edgeCells l, u.oneCell' = true := by
  intro l u hu
  obtain ⟨e, _, h⟩ := List.mem_flatMap.1 hu
  simp only [List.mem_cons, List.not_mem_nil, or_false] at h
  rcases h with h | h <;> subst h <;> rfl
theorem edgeCells_get {l : Edges} {j : Nat} {e : Int × Int} (h : l[j]? = some e) : (edgeCells l)[j * 2]? = some (.int .i64 e.1) ∧ (edgeCells l)[j * 2 + 1]? = some (.int .i64 e.2) := by
  induction l generalizing j with
  | nil => simp at h
  | cons x l ih =>
    cases j with
    | zero => simp at h; subst h; exact ⟨rfl, rfl⟩
    | succ j =>
      have := ih (j := j) (by simpa using h)
      rw [edgeCells_cons, show (j + 1) * 2 = j * 2 + 1 + 1 by omega, List.getElem?_cons_succ, List.getElem?_cons_succ, show j * 2 + 1 + 1 + 1 = (j * 2 + 1) + 1 + 1 by omega, List.getElem?_cons_succ, List.getElem?_cons_succ]
      exact this
theorem Sep.edgesAt {w W : World} {p : Option Addr} {n q : Nat} {l : Edges} {rest : List Res} (h : Sep w W (rowRes 33 2 (.slice p n q) n (edgeCells l) :: rest)) : EdgesAt W p l := by
  intro j e he
  obtain ⟨h0, h1⟩ := edgeCells_get he
  obtain ⟨g, e0, c0, _⟩ := ownsRow_cell_of h.row h0
  obtain ⟨g', e1, c1, _⟩ := ownsRow_cell_of h.row h1
  subst e0
  simp only [Option.some.injEq, Addr.mk.injEq, and_true] at e1
  subst e1
  exact ⟨g, 0, rfl, int_cell_lt c0, by rw [Nat.zero_add]; exact c0, by rw [Nat.zero_add]; exact c1⟩
/-- The cells of edges that lie at a place. -/
theorem EdgesAt.src {W : World} {p : Option Addr} {l : Edges} (h : EdgesAt W p l) : ∀ j u, (edgeCells l)[j]? = some u → ∃ b o, p = some ⟨b, o, none⟩ ∧ W.cell? ⟨b, o + j, none⟩ = some u := by
  intro j u hu
  have hj := (List.getElem?_eq_some_iff.1 hu).1
  rw [edgeCells_length] at hj
  obtain ⟨e, he⟩ : ∃ e, l[j / 2]? = some e := ⟨_, List.getElem?_eq_getElem (by omega)⟩
  obtain ⟨h0, h1⟩ := edgeCells_get he
  obtain ⟨b, o, rfl, _, c0, c1⟩ := h _ e he
  refine ⟨b, o, rfl, ?_⟩
  rcases Nat.mod_two_eq_zero_or_one j with hm | hm
  · obtain rfl : u = .int .i64 e.1 := by rw [show j = j / 2 * 2 by omega, h0] at hu; cases hu; rfl
    rw [show o + j = o + j / 2 * 2 by omega]
    exact c0
  · obtain rfl : u = .int .i64 e.2 := by rw [show j = j / 2 * 2 + 1 by omega, h1] at hu; cases hu; rfl
    rw [show o + j = o + j / 2 * 2 + 1 by omega]
    exact c1

theorem Try.infoEdge : (Try.prog.info? 33).map (fun i => (i.zero, i.size, i.bytes)) = some (some (.agg #[.int .i64 0, .int .i64 0]), 2, 16) := by kernel_rfl

set_option maxRecDepth 100000 in
theorem few_row {W : World} {p : Option Addr} {l : Edges} (q : Nat) (hE : EdgesAt W p l) (hl : l.length ≤ 100000) :
    Calls Try.prog 8 #[.slice p l.length q] W fun r W' => ∃ p' q', r = .returned (.slice p' l.length q') ∧ Sep W W' [rowRes 33 2 (.slice p' l.length q') l.length (edgeCells l)] := by
  obtain ⟨it, IT⟩ := info_of Try.infoEdge
  have HSRC := Lib.hid ((hE.only (Only.alloc [] W (.cells #[] 33))).src)
  have HM := Lib.hid ((Sep.nil W).row_made 33 2)
  clear hE
  go_enter Try.func8, Try.ntmps8
  go_wp2_with (at_builtin; go_must (refine wpList_append_src (w := W) (e := 33) rfl (.tmp 3) (.tmp 4) 22 rfl it _ 2 16 Try.underlying22 IT.out rfl (by decide) _ 0 [] rfl p l.length q (edgeCells l) rfl (by rw [edgeCells_length]) HSRC.out (edgeCells_one l) HM.out (by unfold maxLen; omega) (by omega) ?_))
  intro p' q' w' hs
  try rw [Nat.zero_add] at hs
  have HS := Lib.hid hs; clear hs
  try rw [Nat.zero_add]
  go_wp2_with fail
  go_ret
  exact ⟨p', q', rfl, HS.out⟩

theorem few_any {W : World} {p : Option Addr} {l : Edges} (q : Nat) (hE : EdgesAt W p l) (hl : l.length ≤ 100000) :
    Calls Try.prog 8 #[.slice p l.length q] W fun r W' => ∃ p' q', r = .returned (.slice p' l.length q') ∧ EdgesAt W' p' l ∧ Only [] W W' :=
  (few_row q hE hl).mono (by rintro r w1 ⟨p', q', rfl, hs⟩; exact ⟨p', q', rfl, hs.edgesAt, hs.old⟩)

theorem reachl_any {W : World} {p : Option Addr} {l : Edges} (q : Nat) (hE : EdgesAt W p l) (hok : EdgesOk l) (hl : l.length ≤ 100000) (start : Int) :
    Calls Try.prog 12 #[.slice p l.length q, .int .i64 start] W fun r W' => ∃ xs p q, r = .returned (.slice p (List.length xs) q) ∧ IsReach l start xs ∧ IntsAt W' p xs ∧ Only [] W W' :=
  (preach_any q hE hok hl start).mono (by rintro r w1 ⟨xs, p', q', rfl, hr, hs⟩; exact ⟨xs, p', q', rfl, hr, hs.intsAt, hs.old⟩)
theorem circlel_any {W : World} {p : Option Addr} {l : Edges} (q : Nat) (hE : EdgesAt W p l) (hok : EdgesOk l) (hl : l.length ≤ 100000) :
    Calls Try.prog 14 #[.slice p l.length q] W fun r W' => ∃ xs p q, r = .returned (.slice p (List.length xs) q) ∧ IsCircle l xs ∧ IntsAt W' p xs ∧ Only [] W W' :=
  (pcircle_any q hE hok hl).mono (by rintro r w1 ⟨xs, p', q', rfl, hr, hs⟩; exact ⟨xs, p', q', rfl, hr, hs.intsAt, hs.old⟩)

/-- Nobody is reached who is no edge's end: there are no more than edges. -/
theorem IsReach.le {l : Edges} {a : Int} {xs : List Int} (h : IsReach l a xs) : xs.length ≤ l.length := by
  have hsub : xs ⊆ l.map Prod.snd := by
    intro y hy
    have hp := (h.2 y).1 hy
    cases hp with
    | one h => exact List.mem_map.2 ⟨_, h, rfl⟩
    | more _ h => exact List.mem_map.2 ⟨_, h, rfl⟩
  have := List.Nodup.length_le_of_subset (h.1.imp fun h => by omega) hsub
  simpa using this
theorem IsCircle.le {l : Edges} {xs : List Int} (h : IsCircle l xs) : xs.length ≤ l.length := by
  have hsub : xs ⊆ l.map Prod.snd := by
    intro y hy
    have hp := (h.2 y).1 hy
    cases hp with
    | one h => exact List.mem_map.2 ⟨_, h, rfl⟩
    | more _ h => exact List.mem_map.2 ⟨_, h, rfl⟩
  have := List.Nodup.length_le_of_subset (h.1.imp fun h => by omega) hsub
  simpa using this

/-- The greatest of a list by rising numbers: what Victim tells. -/
def lastI (xs : List Int) : Int := xs.getLast?.getD 0

set_option maxRecDepth 100000 in
theorem pvictim_any {W : World} {p : Option Addr} {l : Edges} (q : Nat) (hE : EdgesAt W p l) (hok : EdgesOk l) (hl : l.length ≤ 100000) :
    Calls Try.prog 9 #[.slice p l.length q] W fun r W' => ∃ xs, r = .returned (.tuple #[.int .i64 (lastI xs), .bool (decide (xs ≠ []))]) ∧ IsCircle l xs ∧ Only [] W W' := by
  have HC := Lib.hid (circlel_any q hE hok hl); clear hE hok
  go_enter Try.func9, Try.ntmps9
  go_wp2_with fail
  refine HC.out.mono ?_
  rintro r w1 ⟨xs, pr, qr, rfl, hc, hi, ho⟩
  have hle := hc.le
  have HI := Lib.hid hi
  have HO := Lib.hid (And.intro hc ho)
  clear hi hc ho HC
  by_cases h0 : xs = []
  · subst h0
    simp only [List.length_nil]
    go_wp2_with fail
    go_ret2
    exact ⟨[], rfl, HO.out.1, HO.out.2⟩
  · have hp : 0 < xs.length := List.length_pos_iff.2 h0
    obtain ⟨y, hy⟩ : ∃ y, xs[xs.length - 1]? = some y := ⟨_, List.getElem?_eq_getElem (by omega)⟩
    obtain ⟨b, o, rfl, _, c0⟩ := HI.out _ y hy
    have HY : Hid (lastI xs = y) := by show _ = _; unfold lastI; rw [List.getLast?_eq_getElem?, hy]; rfl
    have HN := Lib.hid h0
    have hz : ((xs.length : Int) == 0) = false := by rw [beq_eq_false_iff_ne]; omega
    clear hy h0
    obtain ⟨n, hn⟩ : ∃ n, n = xs.length := ⟨_, rfl⟩
    have HNN := Lib.hid hn
    rw [← hn] at hz c0 hp hle ⊢
    obtain ⟨m, rfl⟩ : ∃ m, n = m + 1 := ⟨n - 1, by omega⟩
    rw [show o + (m + 1 - 1) = o + m by omega] at c0
    clear hn
    go_wp2_with fail
    go_ret2
    exact ⟨xs, by rw [HY.out, decide_eq_true HN.out]; rfl, HO.out.1, HO.out.2⟩

set_option maxRecDepth 100000 in
theorem ints_any {W : World} {pa pb : Option Addr} {La Lb : List Int} (qa qb : Nat) (hA : IntsAt W pa La) (hB : IntsAt W pb Lb) (hla : La.length ≤ 100000) (hlb : Lb.length ≤ 100000) :
    Calls Try.prog 11 #[.slice pa La.length qa, .slice pb Lb.length qb] W fun r W' => r = .returned (.bool (decide (La = Lb))) ∧ Only [] W W' := by
  have HA := Lib.hid hA
  have HB := Lib.hid hB
  clear hA hB
  by_cases hl : La.length = Lb.length
  · have HL := Lib.hid hl
    have hlL : ((La.length : Int) != (Lb.length : Int)) = false := by rw [hl]; simp
    have hlL2 : (La.length : Int) = (Lb.length : Int) := by omega
    have HLL := Lib.hid hlL2
    clear hlL2 hl
    go_enter Try.func11, Try.ntmps11
    go_wp2_with fail
    clear hlL
    go_loopw [5] (fun s5 wr => ∃ i : Nat, i ≤ La.length ∧ s5 = .int .i64 i ∧ La.take i = Lb.take i ∧ Only [] W wr) (fun s5 _ => La.length - (intOf s5).toNat)
    case atStart => exact ⟨0, Nat.zero_le _, rfl, by simp, Only.refl _ _⟩
    case round =>
      obtain ⟨i, hi, rfl, ht, ho⟩ := hrel
      have HT := Lib.hid ht
      have HO := Lib.hid ho
      clear ht ho
      by_cases hlt : i < La.length
      · have hltb : i < Lb.length := by have := HL.out; omega
        obtain ⟨x, hx⟩ : ∃ x, La[i]? = some x := ⟨_, List.getElem?_eq_getElem hlt⟩
        obtain ⟨y, hy⟩ : ∃ y, Lb[i]? = some y := ⟨_, List.getElem?_eq_getElem hltb⟩
        obtain ⟨ba, oa, rfl, _, a0⟩ := (HA.out.only HO.out) i x hx
        obtain ⟨bb, ob, rfl, _, b0⟩ := (HB.out.only HO.out) i y hy
        have HX := Lib.hid hx
        have HY := Lib.hid hy
        clear hx hy
        by_cases hv : x = y
        · have v2 : (x != y) = false := by simp [hv]
          have v1 : (x == y) = true := by simp [hv]
          have HE : Hid (La.take (i + 1) = Lb.take (i + 1)) := by
            show _ = _; rw [List.take_add_one, List.take_add_one, HT.out, HX.out, HY.out, hv]
          clear hv
          go_wp2_with fail
          go_quiet (fail)
          go_wp2_with fail
          go_roundw
          case rel => exact ⟨i + 1, by omega, by go_num, HE.out, HO.out.trans (Only.drewN [] _ _) (Within.nil _ _)⟩
          case measure => simp [intOf]; omega
        · have v1 : (x == y) = false := by rw [beq_eq_false_iff_ne]; exact hv
          have v2 : (x != y) = true := by rw [bne, v1]; rfl
          have HE : Hid (decide (La = Lb) = false) := by
            rw [decide_eq_false_iff_not]
            intro e
            subst e
            have h1 := HX.out; have h2 := HY.out
            rw [h1] at h2; cases h2; exact hv rfl
          clear hv
          go_wp2_with fail
          go_quiet (fail)
          go_wp2_with fail
          go_ret
          exact ⟨by rw [HE.out]; rfl, HO.out.trans (Only.drewN [] _ _) (Within.nil _ _)⟩
      · have HE : Hid (decide (La = Lb) = true) := by
          rw [decide_eq_true_eq]
          have h1 := HT.out
          rw [List.take_of_length_le (by omega), List.take_of_length_le (by have := HL.out; omega)] at h1
          exact h1
        go_wp2_with fail
        go_ret
        exact ⟨by rw [HE.out]; rfl, HO.out⟩
  · have hlL : ((La.length : Int) != (Lb.length : Int)) = true := by
      rw [bne_iff_ne]; omega
    have HE : Hid (decide (La = Lb) = false) := by
      rw [decide_eq_false_iff_not]; rintro rfl; exact hl rfl
    have hlL3 : ((La.length : Int) == (Lb.length : Int)) = false := by rw [beq_eq_false_iff_ne]; omega
    clear hl
    go_enter Try.func11, Try.ntmps11
    go_wp2_with fail
    go_ret
    exact ⟨by rw [HE.out]; rfl, Only.refl _ _⟩

/-- Edges that are alike are told so. -/
theorem same_any {W : World} {pa pb : Option Addr} {l : Edges} (qa qb : Nat) (hA : EdgesAt W pa l) (hB : EdgesAt W pb l) (hl : l.length ≤ 100000) :
    Calls Try.prog 16 #[.slice pa l.length qa, .slice pb l.length qb] W fun r W' => r = .returned (.bool true) ∧ Only [] W W' := by
  have HA := Lib.hid hA
  have HB := Lib.hid hB
  clear hA hB
  go_enter Try.func16, Try.ntmps16
  go_wp2_with fail
  go_loopw [5] (fun s5 wr => ∃ i : Nat, i ≤ l.length ∧ s5 = .int .i64 i ∧ Only [] W wr) (fun s5 _ => l.length - (intOf s5).toNat)
  case atStart => exact ⟨0, Nat.zero_le _, rfl, Only.refl _ _⟩
  case round =>
    obtain ⟨i, hi, rfl, ho⟩ := hrel
    have HO := Lib.hid ho
    clear ho
    by_cases hlt : i < l.length
    · obtain ⟨x, hx⟩ : ∃ x, l[i]? = some x := ⟨_, List.getElem?_eq_getElem hlt⟩
      obtain ⟨ba, oa, rfl, _, a0, a1⟩ := (HA.out.only HO.out) i x hx
      obtain ⟨bb, ob, rfl, _, b0, b1⟩ := (HB.out.only HO.out) i x hx
      have v2 : (x.1 != x.1) = false := by simp
      have v3 : (x.2 != x.2) = false := by simp
      clear hx
      go_wp2_with fail
      go_quiet (fail)
      go_wp2_with fail
      go_roundw
      case rel => exact ⟨i + 1, by omega, by go_num, HO.out.trans (Only.drewN [] _ _) (Within.nil _ _)⟩
      case measure => simp [intOf]; omega
    · go_wp2_with fail
      go_ret
      exact ⟨rfl, HO.out⟩

theorem mod_eq (k n : Int) : (k.tmod n + n) % n = k % n := by
  rw [Int.add_emod_right, Int.tmod_def, Int.sub_mul_emod_self_left]

theorem mod_any (k n : Int) (w : World) (hn : 1 ≤ n) (hn2 : n ≤ 1000000) (_h1 : -9223372036854775808 ≤ k) (_h2 : k ≤ 9223372036854775807) :
    Calls Try.prog 17 #[.int .i64 k, .int .i64 n] w fun e w' => e = .returned (.int .i64 (k % n)) ∧ w = w' := by
  have e := mod_eq k n
  have E := Lib.hid e; clear e
  have t1 := Int.lt_tmod_of_pos k (show 0 < n by omega)
  have t2 := Int.tmod_lt_of_pos k (show 0 < n by omega)
  go_enter Try.func17, Try.ntmps17
  go_wp2
  go_ret
  exact ⟨congrArg (fun x => Ending.returned (Value.int .i64 x)) E.out, rfl⟩

section
variable {H : Type} {enc : TypeId × Value → H} {W : World}

set_option maxRecDepth 100000 in
theorem open_edges_at {sp : Nat → Bool} {held : Bool} {fuel : Nat} {v : Value} {x : DataW H × List MemPlace} (h : DataW.trod enc Try.prog W 0 sp held fuel 22 [v] = some x) :
    ∃ p l q, v = .slice p (List.length l) q ∧ ((List.length l : Nat) : Int) ≤ 9223372036854775807 ∧ EdgesOk l ∧ EdgesAt W p l := by
  rcases open_slice Try.underlying22 h with ⟨hcs, _⟩ | ⟨a, len, cap, m, n, D, Pl, hcs, _, hl, hm, hmm, _, hx⟩
  · simp only [List.cons.injEq, and_true] at hcs
    subst hcs
    exact ⟨none, [], 0, rfl, by simp, by intro e he; simp at he, by intro k x hx; simp at hx⟩
  · simp only [List.cons.injEq, and_true] at hcs
    subst hcs
    have hlm : len ≤ m := by rw [hmm]; split <;> omega
    have hC : Try.prog.cellsOf 33 = 2 := by kernel_rfl
    have k1 : Try.prog.cellsOf 3 = 1 := by kernel_rfl
    have hread : ∀ i, i < len → ∃ y : Int × Int, ((Lit.int .i64 y.1).wf = true ∧ (Lit.int .i64 y.2).wf = true) ∧ W.cell? (a.add (i * 2)) = some (.int .i64 y.1) ∧ W.cell? (a.add (i * 2 + 1)) = some (.int .i64 y.2) := by
      intro i hi
      obtain ⟨cs', h1, h2⟩ := hx i (by omega)
      rw [hC] at h1
      obtain ⟨_, hlen, hat⟩ := World.cells?_some h1
      obtain ⟨xs, n', _, _, hcl, hxl, hf⟩ := DataW.trod_array Try.underlying33 h2
      obtain ⟨c0, c1, rfl⟩ : ∃ c0 c1, cs' = [c0, c1] := by
        match cs', hlen with
        | [c0, c1], _ => exact ⟨c0, c1, rfl⟩
      have g0 := hf 0 (by omega)
      have g1 := hf 1 (by omega)
      have l0 : xs[0]? = some (xs[0]'(by rw [hxl]; decide)) := List.getElem?_eq_getElem _
      have l1 : xs[1]? = some (xs[1]'(by rw [hxl]; decide)) := List.getElem?_eq_getElem _
      rw [l0] at g0; rw [l1] at g1
      simp only [k1, Nat.zero_mul, Nat.one_mul, List.drop_zero, List.drop_succ_cons, List.take_succ_cons, List.take_zero] at g0 g1
      obtain ⟨y0, e0, _, w0⟩ := DataW.trod_int Try.underlying3 g0
      obtain ⟨y1, e1, _, w1⟩ := DataW.trod_int Try.underlying3 g1
      simp only [List.cons.injEq, and_true] at e0 e1
      subst e0 e1
      have q0 := hat 0 (by omega)
      have q1 := hat 1 (by omega)
      rw [Go.Deep.add_add] at q0 q1
      refine ⟨(y0, y1), ⟨w0, w1⟩, ?_, ?_⟩
      · simpa using q0
      · simpa using q1
    obtain ⟨l, hl1, hl2⟩ := list_of len hread
    subst hl1
    refine ⟨some a, l, cap, rfl, ?_, ?_, ?_⟩
    · simp [maxLen] at hm; omega
    · intro e he
      obtain ⟨k, hk⟩ := List.getElem?_of_mem he
      exact (hl2 k e hk).1
    · intro k x hkx
      have h0 : 0 < l.length := by have := (List.getElem?_eq_some_iff.1 hkx).1; omega
      have hz := (hl2 0 _ (List.getElem?_eq_getElem h0)).2.1
      rw [Nat.zero_mul, add_zero'] at hz
      obtain ⟨b, o, rfl, hb⟩ := addr_plain hz
      obtain ⟨_, c0, c1⟩ := hl2 k x hkx
      rw [add_at] at c0 c1
      exact ⟨b, o, rfl, hb, c0, c1⟩
end

theorem open_edges {H : Type} {enc : TypeId × Value → H} {W : World} {sp : Nat → Bool} {v : Value} {d : DataW H} {ps : List MemPlace} (hv : ∃ a len cap, v = .slice a len cap) (h : DataW.Trod enc Try.prog W 0 sp true 22 v d ps) :
    ∃ p l q, v = .slice p (List.length l) q ∧ ((List.length l : Nat) : Int) ≤ 9223372036854775807 ∧ (EdgesOk l ∧ EdgesAt W p l) := by
  obtain ⟨a, len, cap, rfl⟩ := hv
  obtain ⟨fuel, hf⟩ := h
  exact open_edges_at hf
theorem open_intss {H : Type} {enc : TypeId × Value → H} {W : World} {sp : Nat → Bool} {v : Value} {d : DataW H} {ps : List MemPlace} (hv : ∃ a len cap, v = .slice a len cap) (h : DataW.Trod enc Try.prog W 0 sp true 28 v d ps) :
    ∃ p l q, v = .slice p (List.length l) q ∧ ((List.length l : Nat) : Int) ≤ 9223372036854775807 ∧ ((∀ y ∈ l, inI64 y) ∧ IntsAt W p l) := open_ints' hv h

/-! The edges of wakes. -/
def wk : Edges := [(1, 2), (2, 1), (3, 1)]
theorem Path.last {l : Edges} {a b : Int} (h : Path l a b) : ∃ c, (c, b) ∈ l := by cases h with | one e => exact ⟨_, e⟩ | more _ e => exact ⟨_, e⟩
theorem wk_last {a y : Int} (h : Path wk a y) : y = 1 ∨ y = 2 := by
  obtain ⟨c, hc⟩ := h.last
  simp [wk] at hc
  omega
theorem wk_circle : IsCircle wk [1, 2] := by
  refine ⟨by simp [Rising], fun y => ⟨fun h => ?_, fun h => ?_⟩⟩
  · simp at h
    rcases h with rfl | rfl
    · exact .more (b := 2) (.one (by simp [wk])) (by simp [wk])
    · exact .more (b := 1) (.one (by simp [wk])) (by simp [wk])
  · rcases wk_last h with rfl | rfl <;> simp
theorem wk_reach : IsReach wk 3 [1, 2] := by
  refine ⟨by simp [Rising], fun y => ⟨fun h => ?_, fun h => ?_⟩⟩
  · simp at h
    rcases h with rfl | rfl
    · exact .one (by simp [wk])
    · exact .more (b := 1) (.one (by simp [wk])) (by simp [wk])
  · rcases wk_last h with rfl | rfl <;> simp
theorem wk_ok : EdgesOk wk := by
  intro e he
  simp [wk] at he
  rcases he with rfl | rfl | rfl <;> decide
theorem wk_at {W : World} {b : Nat} {t : TypeId} {f : Nat × Nat} (h : W.heap[b]? = some (.cells #[.int .i64 1, .int .i64 2, .int .i64 2, .int .i64 1, .int .i64 3, .int .i64 1] t f)) : EdgesAt W (some ⟨b, 0, none⟩) wk := by
  intro k e he
  have hb := lt_of_block h
  match k, he with
  | 0, he => simp [wk] at he; subst he; exact ⟨b, 0, rfl, hb, cell_of_block h 0 rfl, cell_of_block h 1 rfl⟩
  | 1, he => simp [wk] at he; subst he; exact ⟨b, 0, rfl, hb, cell_of_block h 2 rfl, cell_of_block h 3 rfl⟩
  | 2, he => simp [wk] at he; subst he; exact ⟨b, 0, rfl, hb, cell_of_block h 4 rfl, cell_of_block h 5 rfl⟩
  | k + 3, he => simp [wk] at he

set_option maxRecDepth 100000 in
theorem wakes_any (W : World) : Calls Try.prog 7 #[] W fun r W' => r = .returned (.bool true) ∧ Only [] W W' := by
  obtain ⟨V, hV⟩ : ∃ V, V = W.alloc (.cells #[.int .i64 1, .int .i64 2, .int .i64 2, .int .i64 1, .int .i64 3, .int .i64 1] 33) := ⟨_, rfl⟩
  have hE : EdgesAt V (some ⟨W.heap.size, 0, none⟩) wk := wk_at (by rw [hV]; exact heap_alloc_self)
  have HO := Lib.hid (show Only [] W V from hV ▸ Only.alloc [] W _)
  have HE := Lib.hid hE; clear hE
  have HV := Lib.hid hV; clear hV
  go_enter Try.func7, Try.ntmps7
  go_wp2_with fail
  rw [← HV.out]
  refine (pvictim_any (l := wk) 3 HE.out wk_ok (by decide)).mono ?_
  rintro r w1 ⟨xs, rfl, hc, ho1⟩
  obtain rfl := hc.ext (fun _ => Iff.rfl) wk_circle
  clear hc
  have HO1 := Lib.hid ho1; clear ho1
  go_wp2_with fail
  refine (circlel_any (l := wk) 3 (HE.out.only HO1.out) wk_ok (by decide)).mono ?_
  rintro r w2 ⟨xs, pc, qc, rfl, hc, hi2, ho2⟩
  obtain rfl := hc.ext (fun _ => Iff.rfl) wk_circle
  clear hc hi2
  have HO2 := Lib.hid (HO1.out.trans ho2 (Within.nil _ _)); clear ho2
  go_wp2_with fail
  refine (reachl_any (l := wk) 3 (HE.out.only HO2.out) wk_ok (by decide) 3).mono ?_
  rintro r w3 ⟨xs, pc, qc, rfl, hc, hi3, ho3⟩
  obtain rfl := hc.ext (fun _ => Iff.rfl) wk_reach
  clear hc hi3
  have HO3 := Lib.hid (HO2.out.trans ho3 (Within.nil _ _)); clear ho3
  go_wp2_with fail
  go_ret
  exact ⟨rfl, HO.out.trans HO3.out (Within.nil _ _)⟩

end Go.Proofs.Ytlgfegjfhagncaa
