/-
  What is proved here: a child gets a key of the one on its right ((*node).fill of package tree).
  No condition: each lemma names its own.
-/
import Derived.Test.YtpaffpiaoanegaaTreeW
import Derived.Deep.DeepCutAuto
set_option linter.unusedVariables false
set_option linter.unusedSimpArgs false
namespace Go.Proofs.Ytpaffpiaoanegaa
open Go.RowKit

/-- How many keys a child has, read off the memory. -/
theorem NodeAt.peek {h p : Nat} {W : World} {t : T} (hn : NodeAt (h + 1) W p t) {kv : Value} {g cn cq : Nat} (hb : W.heap[p]? = some (.cells #[kv, .slice (some ⟨g, 0, none⟩) cn cq] 91 (0, 0))) {j : Nat} {c : T} (hj : t.kids[j]? = some c) :
    ∃ (q : Nat) (kp : Option Addr) (kq : Nat), W.cell? ⟨g, j, none⟩ = some (.pointer (some ⟨q, 0, none⟩)) ∧ W.cell? ⟨q, 0, none⟩ = some (.slice kp c.keys.length kq) := by
  obtain ⟨kp, kq, cp, cq', ps, hpl, hb', hkr, hcr, hsub⟩ := hn.open
  rw [hb] at hb'
  have hjl := (List.getElem?_eq_some_iff.1 hj).1
  obtain ⟨q, hq⟩ : ∃ q, ps[j]? = some q := ⟨_, List.getElem?_eq_getElem (by omega)⟩
  obtain ⟨g', hg', c1⟩ := kid_cell hcr hq
  simp only [Option.some.injEq, Obj.cells.injEq, and_true] at hb'
  have h2 : Value.slice (some ⟨g, 0, none⟩) cn cq = .slice cp ps.length cq' := by
    have := congrArg (fun a : Array Value => a[1]?) hb'
    simpa using this
  subst hg'
  simp only [Value.slice.injEq, Option.some.injEq, Addr.mk.injEq, and_true] at h2
  obtain ⟨rfl, _, _⟩ := h2
  obtain ⟨F, hF⟩ := hsub j q c hq hj
  have hn2 : NodeAt h W q c := ⟨F, hF⟩
  obtain ⟨kp2, kq2, cp2, cq2, ps2, _, hb2, _⟩ := hn2.open
  exact ⟨q, kp2, kq2, c1, cell_of_block hb2 0 (v := .slice kp2 c.keys.length kq2) rfl⟩

set_option maxRecDepth 100000 in
set_option maxHeartbeats 4000000 in
theorem fill_right {w W : World} {l : List Res} {h p : Nat} {t a b : T} {e : E} {i j lst : Nat} {ka kb : List E} {ca cb : List T} (hs : Sep w W (nodeRes (h + 1) p t :: l)) (hk : t.keys = ka ++ e :: kb) (ht : t.kids = ca ++ a :: b :: cb) (hki : ka.length = j) (hi : ca.length = j) (htn : t.keys.length ≤ 100) (htk : t.kids.length ≤ 101) (han : a.keys.length ≤ 100) (hbn : b.keys.length ≤ 100) (hak : a.kids.length ≤ 101) (hbk : b.kids.length ≤ 101) (hlst : lst ≤ 100)
    (hij : i = j) (hprev : i = 0 ∨ ∃ c, t.kids[i - 1]? = some c ∧ c.keys.length ≤ lst) (hlb : lst < b.keys.length) (hka : a.kids.length = 0 ∨ a.kids.length = a.keys.length + 1) (hkb : b.kids.length = 0 ∨ b.kids.length = b.keys.length + 1) (hkab : a.kids.length = 0 ↔ b.kids.length = 0) :
    Calls Try.prog 45 #[.pointer (some ⟨p, 0, none⟩), .int .i64 i, .int .i64 lst] W fun r W' => r = .returned (.tuple #[]) ∧ Sep w W' (nodeRes (h + 1) p (.nd (t.keys.set j b.keys[0]!) (ca ++ (.nd (a.keys ++ [e]) (a.kids ++ b.kids.take 1) : T) :: (.nd (b.keys.drop 1) (b.kids.drop 1) : T) :: cb)) :: l) := by
  obtain ⟨ie, IE⟩ := info_of Try.infoEnt
  obtain ⟨ip, IP⟩ := info_of Try.infoNode
  subst hij
  obtain ⟨kp, kq, g, cq, ps, pa, pb, qa, qb, kpa, kqa, cpa, cqa, psa, kpb, kqb, cpb, cqb, psb, hps, hpa, hpb, hpla, hplb, hs0⟩ := hs.open2 ht
  have hpsl : ps.length = t.kids.length := by rw [hps, ht]; simp only [List.length_append, List.length_cons]; omega
  have rP := hs0.rowOf (e := 84) (size := 1) (v := .slice (some ⟨g, 0, none⟩) ps.length cq) (n := ps.length) (xs := ps.map ptrV) (by simp)
  have ga : ps[i]? = some qa := by rw [hps, List.getElem?_append_right (by omega), hpa, hi, Nat.sub_self]; rfl
  have gb : ps[i + 1]? = some qb := by rw [hps, List.getElem?_append_right (by omega), hpa, hi, show i + 1 - i = 1 by omega]; rfl
  obtain ⟨_, he, c1⟩ := kid_cell rP ga
  cases he
  obtain ⟨_, he, c2⟩ := kid_cell rP gb
  cases he
  have hil : i < ps.length := (List.getElem?_eq_some_iff.1 ga).1
  have hil2 : i + 1 < ps.length := (List.getElem?_eq_some_iff.1 gb).1
  have hpn : ps.length ≤ 101 := by omega
  have hkn : i < t.keys.length := by rw [hk]; simp; omega
  have hke : t.keys[i]? = some e := by rw [hk, List.getElem?_append_right (by omega), hki, Nat.sub_self]; rfl
  have hpla2 : psa.length ≤ 101 := by omega
  have hplb2 : psb.length ≤ 101 := by omega
  have hkeb : ∃ f, f = b.keys[0]! ∧ b.keys[0]? = some f := ⟨_, rfl, by rw [getElem!_pos b.keys 0 (by omega)]; exact List.getElem?_eq_getElem (by omega)⟩
  obtain ⟨f, hf, hke2⟩ := hkeb
  rw [← hf]
  have HF := Lib.hid hf
  have HKE2 := Lib.hid hke2
  clear hf hke2
  have HS0 := Lib.hid (show Sep w W (blkRes p (.cells #[.slice kp t.keys.length kq, .slice (some ⟨g, 0, none⟩) ps.length cq] 91 (0, 0)) :: rowRes 31 2 (.slice kp t.keys.length kq) (t.keys.length) (cellsE (t.keys)) :: rowRes 84 1 (.slice (some ⟨g, 0, none⟩) ps.length cq) (ps.length) ((ps).map ptrV) :: blkRes qa (.cells #[.slice kpa a.keys.length kqa, .slice cpa psa.length cqa] 91 (0, 0)) :: rowRes 31 2 (.slice kpa a.keys.length kqa) (a.keys.length) (cellsE (a.keys)) :: rowRes 84 1 (.slice cpa psa.length cqa) (psa.length) ((psa).map ptrV) :: blkRes qb (.cells #[.slice kpb b.keys.length kqb, .slice cpb psb.length cqb] 91 (0, 0)) :: rowRes 31 2 (.slice kpb b.keys.length kqb) (b.keys.length) (cellsE (b.keys)) :: rowRes 84 1 (.slice cpb psb.length cqb) (psb.length) ((psb).map ptrV) :: (List.zipWith (subRes h) psa a.kids ++ (List.zipWith (subRes h) psb b.kids ++ (List.zipWith (subRes (h + 1)) pa ca ++ (List.zipWith (subRes (h + 1)) pb cb ++ (l)))))) from hs0)
  have HNB : Hid (W.heap[p]? = some (.cells #[.slice kp t.keys.length kq, .slice (some ⟨g, 0, none⟩) ps.length cq] 91 (0, 0))) := HS0.out.blk
  have HPREV : Hid (i = 0 ∨ ∃ (q' : Nat) (kp' : Option Addr) (n' kq' : Nat), 0 < i ∧ W.cell? ⟨g, i - 1, none⟩ = some (.pointer (some ⟨q', 0, none⟩)) ∧ W.cell? ⟨q', 0, none⟩ = some (.slice kp' n' kq') ∧ n' ≤ lst) := by
    rcases Nat.eq_zero_or_pos i with h0 | h0
    · exact .inl h0
    · right
      obtain ⟨c, hc1, hc2⟩ := hprev.resolve_left (by omega)
      obtain ⟨q', kp', kq', h1, h2⟩ := hs.node.peek HNB.out hc1
      exact ⟨q', kp', _, kq', h0, h1, h2, hc2⟩
  clear hprev
  have HPS := Lib.hid hps
  have HT := Lib.hid ht
  have HK := Lib.hid hk
  have HI := Lib.hid hi
  have HKI := Lib.hid hki
  have HPA := Lib.hid hpa
  have HPB := Lib.hid hpb
  have HPLA := Lib.hid hpla
  have HPLB := Lib.hid hplb
  have HKE := Lib.hid hke
  clear hs hs0 rP hps ht hk hi hki hpa hpb hpla hplb hke ga gb hpsl
  have p1 : World.cell? (W) ⟨p, 1, none⟩ = some (.slice (some ⟨g, 0, none⟩) ps.length cq) := cell_of_block (HS0.out.blkOf (g := p) (o := .cells #[.slice kp t.keys.length kq, .slice (some ⟨g, 0, none⟩) ps.length cq] 91 (0, 0)) (by simp)) 1 (v := .slice (some ⟨g, 0, none⟩) ps.length cq) rfl
  have b0 : World.cell? (W) ⟨qb, 0, none⟩ = some (.slice kpb b.keys.length kqb) := cell_of_block (HS0.out.blkOf (g := qb) (o := .cells #[.slice kpb b.keys.length kqb, .slice cpb psb.length cqb] 91 (0, 0)) (by simp)) 0 (v := .slice kpb b.keys.length kqb) rfl
  have hw1 : IntKind.i64.wrap ((i : Int) + 1) = (i : Int) + 1 := IntWalk.i64_in _ (by omega)
  have hw2 : (0 : Int) ≤ (i : Int) + 1 := by omega
  have hw3 : ((i : Int) + 1).toNat = i + 1 := by omega
  have hw4 : (i : Int) + 1 < (ps.length : Int) := by omega
  have hw5 : (lst : Int) < (b.keys.length : Int) := by omega
  have hw8 : (i : Int) < (ps.length : Int) := by omega
  have HKA := Lib.hid hka
  have HKB := Lib.hid hkb
  have HKAB := Lib.hid hkab
  clear hka hkb hkab
  go_enter Try.func45, Try.ntmps45
  go_upto_region 1 with fail
  go_cut [14] (fun s14 wx => W = wx ∧ s14 = .bool false)
  case first =>
    rcases HPREV.out with h0 | ⟨q', kp', n', kq', h0, g1, g2, g3⟩
    · have HPV := HPREV
      subst h0
      go_wp2_with fail
      go_meet
      exact ⟨rfl, rfl⟩
    · have u1 : ((i : Int) - 1).toNat = i - 1 := by omega
      have u2 : (0 : Int) ≤ (i : Int) - 1 := by omega
      have u3 : (i : Int) - 1 < (ps.length : Int) := by omega
      have u4 : ¬ ((lst : Int) < (n' : Int)) := by omega
      have u5 : i - 1 < ps.length := by omega
      go_wp2_with fail
      go_meet
      exact ⟨rfl, rfl⟩
  case rest =>
  obtain ⟨rfl, rfl⟩ := hcut
  go_wp2_with fail
  go_quiet (fail)
  have HS1 := Lib.hid (show Sep w (W.drewN nq) (blkRes p (.cells #[.slice kp t.keys.length kq, .slice (some ⟨g, 0, none⟩) ps.length cq] 91 (0, 0)) :: rowRes 31 2 (.slice kp t.keys.length kq) (t.keys.length) (cellsE (t.keys)) :: rowRes 84 1 (.slice (some ⟨g, 0, none⟩) ps.length cq) (ps.length) ((ps).map ptrV) :: blkRes qa (.cells #[.slice kpa a.keys.length kqa, .slice cpa psa.length cqa] 91 (0, 0)) :: rowRes 31 2 (.slice kpa a.keys.length kqa) (a.keys.length) (cellsE (a.keys)) :: rowRes 84 1 (.slice cpa psa.length cqa) (psa.length) ((psa).map ptrV) :: blkRes qb (.cells #[.slice kpb b.keys.length kqb, .slice cpb psb.length cqb] 91 (0, 0)) :: rowRes 31 2 (.slice kpb b.keys.length kqb) (b.keys.length) (cellsE (b.keys)) :: rowRes 84 1 (.slice cpb psb.length cqb) (psb.length) ((psb).map ptrV) :: (List.zipWith (subRes h) psa a.kids ++ (List.zipWith (subRes h) psb b.kids ++ (List.zipWith (subRes (h + 1)) pa ca ++ (List.zipWith (subRes (h + 1)) pb cb ++ (l)))))) from HS0.out.only (Only.drewN [] _ nq))
  clear HS0
  generalize hV : W.drewN nq = V at HS1 ⊢
  clear hV p1 b0 c1 c2 HNB HPREV
  have rK := HS1.out.rowOf (e := 31) (size := 2) (v := .slice kp t.keys.length kq) (n := t.keys.length) (xs := cellsE t.keys) (by simp)
  have rB := HS1.out.rowOf (e := 31) (size := 2) (v := .slice kpb b.keys.length kqb) (n := b.keys.length) (xs := cellsE b.keys) (by simp)
  obtain ⟨gk, rfl, d0, d1⟩ := keyCells rK HKE.out
  obtain ⟨gkb, rfl, _, _⟩ := keyCells rB HKE2.out
  clear rK rB
  have HS2 := Lib.hid (show Sep w (V) (rowRes 31 2 (.slice kpa a.keys.length kqa) (a.keys.length) (cellsE (a.keys)) :: blkRes qa (.cells #[.slice kpa a.keys.length kqa, .slice cpa psa.length cqa] 91 (0, 0)) :: blkRes p (.cells #[.slice (some ⟨gk, 0, none⟩) t.keys.length kq, .slice (some ⟨g, 0, none⟩) ps.length cq] 91 (0, 0)) :: rowRes 31 2 (.slice (some ⟨gk, 0, none⟩) t.keys.length kq) (t.keys.length) (cellsE (t.keys)) :: rowRes 84 1 (.slice (some ⟨g, 0, none⟩) ps.length cq) (ps.length) ((ps).map ptrV) :: rowRes 84 1 (.slice cpa psa.length cqa) (psa.length) ((psa).map ptrV) :: blkRes qb (.cells #[.slice (some ⟨gkb, 0, none⟩) b.keys.length kqb, .slice cpb psb.length cqb] 91 (0, 0)) :: rowRes 31 2 (.slice (some ⟨gkb, 0, none⟩) b.keys.length kqb) (b.keys.length) (cellsE (b.keys)) :: rowRes 84 1 (.slice cpb psb.length cqb) (psb.length) ((psb).map ptrV) :: (List.zipWith (subRes h) psa a.kids ++ (List.zipWith (subRes h) psb b.kids ++ (List.zipWith (subRes (h + 1)) pa ca ++ (List.zipWith (subRes (h + 1)) pb cb ++ (l)))))) from HS1.out.reorder (by (intro x; simp only [List.count_append, List.count_cons, List.count_nil, List.cons_append, List.nil_append, List.append_assoc]; omega)))
  clear HS1
  obtain ⟨lf1, hlf1⟩ : ∃ lf1 : List Res, lf1 = rowRes 84 1 (.slice (some ⟨g, 0, none⟩) ps.length cq) (ps.length) ((ps).map ptrV) :: rowRes 84 1 (.slice cpa psa.length cqa) (psa.length) ((psa).map ptrV) :: blkRes qb (.cells #[.slice (some ⟨gkb, 0, none⟩) b.keys.length kqb, .slice cpb psb.length cqb] 91 (0, 0)) :: rowRes 31 2 (.slice (some ⟨gkb, 0, none⟩) b.keys.length kqb) (b.keys.length) (cellsE (b.keys)) :: rowRes 84 1 (.slice cpb psb.length cqb) (psb.length) ((psb).map ptrV) :: (List.zipWith (subRes h) psa a.kids ++ (List.zipWith (subRes h) psb b.kids ++ (List.zipWith (subRes (h + 1)) pa ca ++ (List.zipWith (subRes (h + 1)) pb cb ++ (l))))) := ⟨_, rfl⟩
  have HS3 := Lib.hid (show Sep w (V) (rowRes 31 2 (.slice kpa a.keys.length kqa) (a.keys.length) (cellsE (a.keys)) :: blkRes qa (.cells #[.slice kpa a.keys.length kqa, .slice cpa psa.length cqa] 91 (0, 0)) :: blkRes p (.cells #[.slice (some ⟨gk, 0, none⟩) t.keys.length kq, .slice (some ⟨g, 0, none⟩) ps.length cq] 91 (0, 0)) :: rowRes 31 2 (.slice (some ⟨gk, 0, none⟩) t.keys.length kq) (t.keys.length) (cellsE (t.keys)) :: (lf1)) from by rw [hlf1]; exact HS2.out)
  have HLlf1 := Lib.hid hlf1
  clear hlf1 HS2
  have p0 : World.cell? (V) ⟨p, 0, none⟩ = some (.slice (some ⟨gk, 0, none⟩) t.keys.length kq) := cell_of_block (HS3.out.blkOf (g := p) (o := .cells #[.slice (some ⟨gk, 0, none⟩) t.keys.length kq, .slice (some ⟨g, 0, none⟩) ps.length cq] 91 (0, 0)) (by simp)) 0 (v := .slice (some ⟨gk, 0, none⟩) t.keys.length kq) rfl
  have a0 : World.cell? (V) ⟨qa, 0, none⟩ = some (.slice kpa a.keys.length kqa) := cell_of_block (HS3.out.blkOf (g := qa) (o := .cells #[.slice kpa a.keys.length kqa, .slice cpa psa.length cqa] 91 (0, 0)) (by simp)) 0 (v := .slice kpa a.keys.length kqa) rfl
  have a0a : World.cell? (V.alloc (.cells #[.string e.1, .int .i64 e.2] 31)) ⟨qa, 0, none⟩ = some (.slice kpa a.keys.length kqa) := Lib.cell?_alloc_some _ a0
  have HA1 := Lib.hid ((Sep.forget ((HS3.out)) (.cells #[.string e.1, .int .i64 e.2] 31)).drew)
  have HNW : Hid (((V.alloc (.cells #[.string e.1, .int .i64 e.2] 31)).drew).heap[V.heap.size]? = some (.cells #[.string e.1, .int .i64 e.2] 31 (0, 0))) := heap_alloc_self (w := V)
  have mixed : Try.prog.follows .mixedOrders = true := by kernel_rfl
  go_upto_region 12 with fail
  go_cut [] (fun wx => ∃ (p4 : Option Addr) (q4 : Nat), Sep w wx (blkRes qa (.cells #[.slice p4 (a.keys.length + 1) q4, .slice cpa psa.length cqa] 91 (0, 0)) :: rowRes 31 2 (.slice p4 (a.keys.length + 1) q4) (a.keys.length + 1) (cellsE (a.keys ++ [e])) :: blkRes p (.cells #[.slice (some ⟨gk, 0, none⟩) t.keys.length kq, .slice (some ⟨g, 0, none⟩) ps.length cq] 91 (0, 0)) :: rowRes 31 2 (.slice (some ⟨gk, 0, none⟩) t.keys.length kq) (t.keys.length) (cellsE (t.keys)) :: (lf1)))
  case first =>
    refine wp_region_last (S := (fun w' => w'.cell? ⟨qa, 0, none⟩ = some (.slice kpa a.keys.length kqa) ∧ w'.cell? ⟨p, 0, none⟩ = some (.slice (some ⟨gk, 0, none⟩) t.keys.length kq) ∧ w'.cell? ⟨gk, i * 2, none⟩ = some (.string e.1) ∧ w'.cell? ⟨gk, i * 2 + 1, none⟩ = some (.int .i64 e.2))) (by kernel_rfl) 16 _ rfl rfl rfl (by kernel_rfl) [15, 14, 13, 12, 11, 10, 9, 8, 7, 6, 5, 4, 3, 2, 1, 0] (by kernel_rfl) (by kernel_rfl) ?_ (fun hHeld => ?_)
    · (try dsimp only); (first | go_keep | (refine ⟨?_, ?_, ?_, ?_⟩ <;> assumption))
    simp only [lull, List.setIfInBounds_toArray, List.set_cons_succ, List.set_cons_zero]
    refine wpAnyH_take (i := 0) (v := ?_) rfl (by kernel_rfl) (by kernel_rfl) (by kernel_rfl) (fun _ _ _ h => h) (Or.inl ⟨by rfl, ?_⟩) (by assumption) ?_
    rotate_left
    · (intro w hSw; (try dsimp only at hSw); go_simp; try with_reducible rfl)
    (try simp only [Act.put, List.setIfInBounds_toArray, List.set_cons_zero, List.set_cons_succ])
    refine wpAnyH_take (i := 1) (v := ?_) rfl (by kernel_rfl) (by kernel_rfl) (by kernel_rfl) (fun _ _ _ h => h) (Or.inl ⟨by rfl, ?_⟩) (by assumption) ?_
    rotate_left
    · (intro w hSw; (try dsimp only at hSw); go_simp; try with_reducible rfl)
    (try simp only [Act.put, List.setIfInBounds_toArray, List.set_cons_zero, List.set_cons_succ])
    refine wpAnyH_take (i := 2) (v := ?_) rfl (by kernel_rfl) (by kernel_rfl) (by kernel_rfl) (fun _ _ _ h => h) (Or.inl ⟨by rfl, ?_⟩) (by assumption) ?_
    rotate_left
    · (intro w hSw; (try dsimp only at hSw); go_simp; try with_reducible rfl)
    (try simp only [Act.put, List.setIfInBounds_toArray, List.set_cons_zero, List.set_cons_succ])
    refine wpAnyH_take (i := 3) (v := ?_) rfl (by kernel_rfl) (by kernel_rfl) (by kernel_rfl) (fun _ _ _ h => h) (Or.inl ⟨by rfl, ?_⟩) (by assumption) ?_
    rotate_left
    · (intro w hSw; (try dsimp only at hSw); go_simp; try with_reducible rfl)
    (try simp only [Act.put, List.setIfInBounds_toArray, List.set_cons_zero, List.set_cons_succ])
    refine wpAnyH_take (i := 4) (v := ?_) rfl (by kernel_rfl) (by kernel_rfl) (by kernel_rfl) (fun _ _ _ h => h) (Or.inl ⟨by rfl, ?_⟩) (by assumption) ?_
    rotate_left
    · (intro w hSw; (try dsimp only at hSw); go_simp; try with_reducible rfl)
    (try simp only [Act.put, List.setIfInBounds_toArray, List.set_cons_zero, List.set_cons_succ])
    refine wpAnyH_take (i := 5) (v := ?_) rfl (by kernel_rfl) (by kernel_rfl) (by kernel_rfl) (fun _ _ _ h => h) (Or.inl ⟨by rfl, ?_⟩) (by assumption) ?_
    rotate_left
    · (intro w hSw; (try dsimp only at hSw); go_simp; try with_reducible rfl)
    (try simp only [Act.put, List.setIfInBounds_toArray, List.set_cons_zero, List.set_cons_succ])
    refine wpAnyH_take (i := 6) (v := ?_) rfl (by kernel_rfl) (by kernel_rfl) (by kernel_rfl) (fun _ _ _ h => h) (Or.inl ⟨by rfl, ?_⟩) (by assumption) ?_
    rotate_left
    · (intro w hSw; (try dsimp only at hSw); go_simp; try with_reducible rfl)
    (try simp only [Act.put, List.setIfInBounds_toArray, List.set_cons_zero, List.set_cons_succ])
    refine wpAnyH_take (i := 7) (v := ?_) rfl (by kernel_rfl) (by kernel_rfl) (by kernel_rfl) (fun _ _ _ h => h) (Or.inl ⟨by rfl, ?_⟩) (by assumption) ?_
    rotate_left
    · (intro w hSw; (try dsimp only at hSw); go_simp; try with_reducible rfl)
    (try simp only [Act.put, List.setIfInBounds_toArray, List.set_cons_zero, List.set_cons_succ])
    refine wpAnyH_take (i := 8) (v := ?_) rfl (by kernel_rfl) (by kernel_rfl) (by kernel_rfl) (fun _ _ _ h => h) (Or.inl ⟨by rfl, ?_⟩) (by assumption) ?_
    rotate_left
    · (intro w hSw; (try dsimp only at hSw); go_simp; try with_reducible rfl)
    (try simp only [Act.put, List.setIfInBounds_toArray, List.set_cons_zero, List.set_cons_succ])
    refine wpAnyH_take (i := 9) (v := ?_) rfl (by kernel_rfl) (by kernel_rfl) (by kernel_rfl) (fun _ _ _ h => h) (Or.inl ⟨by rfl, ?_⟩) (by assumption) ?_
    rotate_left
    · (intro w hSw; (try dsimp only at hSw); go_simp; try with_reducible rfl)
    (try simp only [Act.put, List.setIfInBounds_toArray, List.set_cons_zero, List.set_cons_succ])
    refine wpAnyH_take (i := 10) (v := ?_) rfl (by kernel_rfl) (by kernel_rfl) (by kernel_rfl) (fun _ _ _ h => h) (Or.inl ⟨by rfl, ?_⟩) (by assumption) ?_
    rotate_left
    · (intro w hSw; (try dsimp only at hSw); go_simp; try with_reducible rfl)
    (try simp only [Act.put, List.setIfInBounds_toArray, List.set_cons_zero, List.set_cons_succ])
    refine wpAnyH_take (i := 11) (v := ?_) rfl (by kernel_rfl) (by kernel_rfl) (by kernel_rfl) (fun _ _ _ h => h) (Or.inl ⟨by rfl, ?_⟩) (by assumption) ?_
    rotate_left
    · (intro w hSw; (try dsimp only at hSw); go_simp; try with_reducible rfl)
    (try simp only [Act.put, List.setIfInBounds_toArray, List.set_cons_zero, List.set_cons_succ])
    refine wpAnyH_ready (rs := [12]) (by kernel_rfl) (by simp) ?_
    refine AllReadyH.cons rfl (fun K hK => ?_) ?_
    · go_simp
      refine hK.out _ _ ?_ (fun hH1 => ?_)
      · (try dsimp only); (first | go_keep | (refine ⟨?_, ?_, ?_, ?_⟩ <;> assumption))
      clear hK K hHeld
      (try simp only [Act.put, List.setIfInBounds_toArray, List.set_cons_zero, List.set_cons_succ])
      refine wpAnyH_ready (rs := [13]) (by kernel_rfl) (by simp) ?_
      refine AllReadyH.cons rfl (fun K hK => ?_) ?_
      · (refine step_append_sep (w := w) (e := 31) rfl (.tmp 171) (.tmp 179) 32 rfl ie _ 2 24 Try.underlying32 IE.out rfl (by decide) (.slice kpa a.keys.length kqa) a.keys.length (cellsE a.keys) rfl rfl HNW.out rfl (ent_one e) HA1.out (by unfold maxLen; omega) (by omega) ?_; intro p4 q4 w4 hs4; have HS4 := Lib.hid (show Sep w (w4) (rowRes 31 2 (.slice p4 (a.keys.length + 1) q4) (a.keys.length + 1) (cellsE (a.keys ++ [e])) :: blkRes qa (.cells #[.slice kpa a.keys.length kqa, .slice cpa psa.length cqa] 91 (0, 0)) :: blkRes p (.cells #[.slice (some ⟨gk, 0, none⟩) t.keys.length kq, .slice (some ⟨g, 0, none⟩) ps.length cq] 91 (0, 0)) :: rowRes 31 2 (.slice (some ⟨gk, 0, none⟩) t.keys.length kq) (t.keys.length) (cellsE (t.keys)) :: (lf1)) from (by have h4 := hs4; rw [show cellsE a.keys ++ (#[Value.string e.1, Value.int .i64 e.2] : Array Value).toList = cellsE (a.keys ++ [e]) from by rw [cellsE_append]; rfl] at h4; exact h4)); clear HS3; have a0n : World.cell? (w4) ⟨qa, 0, none⟩ = some (.slice kpa a.keys.length kqa) := cell_of_block (HS4.out.blkOf (g := qa) (o := .cells #[.slice kpa a.keys.length kqa, .slice cpa psa.length cqa] 91 (0, 0)) (by simp)) 0 (v := .slice kpa a.keys.length kqa) rfl; have fa0 : World.frozen? (w4) ⟨qa, 0, none⟩ = false := free_of_block (HS4.out.blkOf (g := qa) (o := .cells #[.slice kpa a.keys.length kqa, .slice cpa psa.length cqa] 91 (0, 0)) (by simp)) 0; have p0n : World.cell? (w4) ⟨p, 0, none⟩ = some (.slice (some ⟨gk, 0, none⟩) t.keys.length kq) := cell_of_block (HS4.out.blkOf (g := p) (o := .cells #[.slice (some ⟨gk, 0, none⟩) t.keys.length kq, .slice (some ⟨g, 0, none⟩) ps.length cq] 91 (0, 0)) (by simp)) 0 (v := .slice (some ⟨gk, 0, none⟩) t.keys.length kq) rfl; have rKn := HS4.out.rowOf (e := 31) (size := 2) (v := .slice (some ⟨gk, 0, none⟩) t.keys.length kq) (n := t.keys.length) (xs := cellsE t.keys) (by simp); obtain ⟨_, he, d0n, d1n⟩ := keyCells rKn HKE.out; cases he; clear rKn; clear hs4)
        refine hK.out _ _ ?_ (fun hH2 => ?_)
        · (try dsimp only); (first | go_keep | (refine ⟨?_, ?_, ?_, ?_⟩ <;> assumption))
        clear hK K hH1
        (try simp only [Act.put, List.setIfInBounds_toArray, List.set_cons_zero, List.set_cons_succ])
        refine wpAnyH_take (i := 14) (v := ?_) rfl (by kernel_rfl) (by kernel_rfl) (by kernel_rfl) (fun _ _ _ h => h) (Or.inl ⟨by rfl, ?_⟩) (by assumption) ?_
        rotate_left
        · (intro w hSw; (try dsimp only at hSw); go_simp; try with_reducible rfl)
        (try simp only [Act.put, List.setIfInBounds_toArray, List.set_cons_zero, List.set_cons_succ])
        refine wpAnyH_take (i := 15) (v := ?_) rfl (by kernel_rfl) (by kernel_rfl) (by kernel_rfl) (fun _ _ _ h => h) (Or.inl ⟨by rfl, ?_⟩) (by assumption) ?_
        rotate_left
        · (intro w hSw; (try dsimp only at hSw); go_simp; try with_reducible rfl)
        (try simp only [Act.put, List.setIfInBounds_toArray, List.set_cons_zero, List.set_cons_succ])
        refine wpAnyH_take (i := 16) (v := ?_) rfl (by kernel_rfl) (by kernel_rfl) (by kernel_rfl) (fun _ _ _ h => h) (Or.inl ⟨by rfl, ?_⟩) (by assumption) ?_
        rotate_left
        · (intro w hSw; (try dsimp only at hSw); go_simp; try with_reducible rfl)
        (try simp only [Act.put, List.setIfInBounds_toArray, List.set_cons_zero, List.set_cons_succ])
        refine wpAnyH_done (by kernel_rfl) ?_ _
        refine tail_run rfl rfl ?_
        clear hH2
        have HS5 := Lib.hid (show Sep w (World.setCell (w4) ⟨qa, 0, none⟩ (.slice p4 (a.keys.length + 1) q4)) (blkRes qa (.cells #[.slice p4 (a.keys.length + 1) q4, .slice cpa psa.length cqa] 91 (0, 0)) :: rowRes 31 2 (.slice p4 (a.keys.length + 1) q4) (a.keys.length + 1) (cellsE (a.keys ++ [e])) :: blkRes p (.cells #[.slice (some ⟨gk, 0, none⟩) t.keys.length kq, .slice (some ⟨g, 0, none⟩) ps.length cq] 91 (0, 0)) :: rowRes 31 2 (.slice (some ⟨gk, 0, none⟩) t.keys.length kq) (t.keys.length) (cellsE (t.keys)) :: (lf1)) from (HS4.out.up1).store 0 (.slice p4 (a.keys.length + 1) q4))
        clear HS4
        go_simp
        go_wp2_with fail
        go_meet
        exact ⟨p4, q4, HS5.out⟩
      exact AllReadyH.nil
    exact AllReadyH.nil
  case rest =>
    obtain ⟨p4, q4, hs5⟩ := hcut
    obtain ⟨V2, hV2⟩ : ∃ V2 : World, V2 = wc := ⟨_, rfl⟩
    rw [← hV2] at hs5 ⊢
    clear hV2
    have HS10 := Lib.hid hs5
    clear hs5 HS3 HA1 HNW p0 a0 a0a d0 d1
    have HS11 := Lib.hid (show Sep w (V2) (blkRes qa (.cells #[.slice p4 (a.keys.length + 1) q4, .slice cpa psa.length cqa] 91 (0, 0)) :: rowRes 31 2 (.slice p4 (a.keys.length + 1) q4) (a.keys.length + 1) (cellsE (a.keys ++ [e])) :: blkRes p (.cells #[.slice (some ⟨gk, 0, none⟩) t.keys.length kq, .slice (some ⟨g, 0, none⟩) ps.length cq] 91 (0, 0)) :: rowRes 31 2 (.slice (some ⟨gk, 0, none⟩) t.keys.length kq) (t.keys.length) (cellsE (t.keys)) :: rowRes 84 1 (.slice (some ⟨g, 0, none⟩) ps.length cq) (ps.length) ((ps).map ptrV) :: rowRes 84 1 (.slice cpa psa.length cqa) (psa.length) ((psa).map ptrV) :: blkRes qb (.cells #[.slice (some ⟨gkb, 0, none⟩) b.keys.length kqb, .slice cpb psb.length cqb] 91 (0, 0)) :: rowRes 31 2 (.slice (some ⟨gkb, 0, none⟩) b.keys.length kqb) (b.keys.length) (cellsE (b.keys)) :: rowRes 84 1 (.slice cpb psb.length cqb) (psb.length) ((psb).map ptrV) :: (List.zipWith (subRes h) psa a.kids ++ (List.zipWith (subRes h) psb b.kids ++ (List.zipWith (subRes (h + 1)) pa ca ++ (List.zipWith (subRes (h + 1)) pb cb ++ (l)))))) from by have h := HS10.out; rw [HLlf1.out] at h; exact h)
    clear HS10
    have HS12 := Lib.hid (show Sep w (V2) (rowRes 31 2 (.slice (some ⟨gk, 0, none⟩) t.keys.length kq) (t.keys.length) (cellsE (t.keys)) :: blkRes p (.cells #[.slice (some ⟨gk, 0, none⟩) t.keys.length kq, .slice (some ⟨g, 0, none⟩) ps.length cq] 91 (0, 0)) :: blkRes qb (.cells #[.slice (some ⟨gkb, 0, none⟩) b.keys.length kqb, .slice cpb psb.length cqb] 91 (0, 0)) :: rowRes 31 2 (.slice (some ⟨gkb, 0, none⟩) b.keys.length kqb) (b.keys.length) (cellsE (b.keys)) :: blkRes qa (.cells #[.slice p4 (a.keys.length + 1) q4, .slice cpa psa.length cqa] 91 (0, 0)) :: rowRes 31 2 (.slice p4 (a.keys.length + 1) q4) (a.keys.length + 1) (cellsE (a.keys ++ [e])) :: rowRes 84 1 (.slice (some ⟨g, 0, none⟩) ps.length cq) (ps.length) ((ps).map ptrV) :: rowRes 84 1 (.slice cpa psa.length cqa) (psa.length) ((psa).map ptrV) :: rowRes 84 1 (.slice cpb psb.length cqb) (psb.length) ((psb).map ptrV) :: (List.zipWith (subRes h) psa a.kids ++ (List.zipWith (subRes h) psb b.kids ++ (List.zipWith (subRes (h + 1)) pa ca ++ (List.zipWith (subRes (h + 1)) pb cb ++ (l)))))) from HS11.out.reorder (by (intro x; simp only [List.count_append, List.count_cons, List.count_nil, List.cons_append, List.nil_append, List.append_assoc]; omega)))
    clear HS11
    obtain ⟨lf2, hlf2⟩ : ∃ lf2 : List Res, lf2 = blkRes qa (.cells #[.slice p4 (a.keys.length + 1) q4, .slice cpa psa.length cqa] 91 (0, 0)) :: rowRes 31 2 (.slice p4 (a.keys.length + 1) q4) (a.keys.length + 1) (cellsE (a.keys ++ [e])) :: rowRes 84 1 (.slice (some ⟨g, 0, none⟩) ps.length cq) (ps.length) ((ps).map ptrV) :: rowRes 84 1 (.slice cpa psa.length cqa) (psa.length) ((psa).map ptrV) :: rowRes 84 1 (.slice cpb psb.length cqb) (psb.length) ((psb).map ptrV) :: (List.zipWith (subRes h) psa a.kids ++ (List.zipWith (subRes h) psb b.kids ++ (List.zipWith (subRes (h + 1)) pa ca ++ (List.zipWith (subRes (h + 1)) pb cb ++ (l))))) := ⟨_, rfl⟩
    have HS13 := Lib.hid (show Sep w (V2) (rowRes 31 2 (.slice (some ⟨gk, 0, none⟩) t.keys.length kq) (t.keys.length) (cellsE (t.keys)) :: blkRes p (.cells #[.slice (some ⟨gk, 0, none⟩) t.keys.length kq, .slice (some ⟨g, 0, none⟩) ps.length cq] 91 (0, 0)) :: blkRes qb (.cells #[.slice (some ⟨gkb, 0, none⟩) b.keys.length kqb, .slice cpb psb.length cqb] 91 (0, 0)) :: rowRes 31 2 (.slice (some ⟨gkb, 0, none⟩) b.keys.length kqb) (b.keys.length) (cellsE (b.keys)) :: (lf2)) from by rw [hlf2]; exact HS12.out)
    have HLlf2 := Lib.hid hlf2
    clear hlf2 HS12
    have p0 : World.cell? (V2) ⟨p, 0, none⟩ = some (.slice (some ⟨gk, 0, none⟩) t.keys.length kq) := cell_of_block (HS13.out.blkOf (g := p) (o := .cells #[.slice (some ⟨gk, 0, none⟩) t.keys.length kq, .slice (some ⟨g, 0, none⟩) ps.length cq] 91 (0, 0)) (by simp)) 0 (v := .slice (some ⟨gk, 0, none⟩) t.keys.length kq) rfl
    have b0 : World.cell? (V2) ⟨qb, 0, none⟩ = some (.slice (some ⟨gkb, 0, none⟩) b.keys.length kqb) := cell_of_block (HS13.out.blkOf (g := qb) (o := .cells #[.slice (some ⟨gkb, 0, none⟩) b.keys.length kqb, .slice cpb psb.length cqb] 91 (0, 0)) (by simp)) 0 (v := .slice (some ⟨gkb, 0, none⟩) b.keys.length kqb) rfl
    have rK := HS13.out.rowOf (e := 31) (size := 2) (v := .slice (some ⟨gk, 0, none⟩) t.keys.length kq) (n := t.keys.length) (xs := cellsE t.keys) (by simp)
    have rB := HS13.out.rowOf (e := 31) (size := 2) (v := .slice (some ⟨gkb, 0, none⟩) b.keys.length kqb) (n := b.keys.length) (xs := cellsE b.keys) (by simp)
    obtain ⟨d0, d1, e0, e1⟩ : World.cell? V2 ⟨gk, i * 2, none⟩ = some (.string e.1) ∧ World.cell? V2 ⟨gk, i * 2 + 1, none⟩ = some (.int .i64 e.2) ∧ World.cell? V2 ⟨gkb, 0, none⟩ = some (.string f.1) ∧ World.cell? V2 ⟨gkb, 1, none⟩ = some (.int .i64 f.2) := by
      obtain ⟨_, he, h1, h2⟩ := keyCells rK HKE.out
      cases he
      obtain ⟨_, he, h3, h4⟩ := keyCells rB HKE2.out
      cases he
      exact ⟨h1, h2, by simpa using h3, by simpa using h4⟩
    have HRW := Lib.hid (HS13.out)
    have fz0 := (HRW.out.rowCell (cellsE_get HKE.out).1).2
    have fz1 := (HRW.out.rowCell (cellsE_get HKE.out).2).2
    have hst := (HRW.out.rowStore (i * 2) (.string f.1)).rowStore (i * 2 + 1) (.int .i64 f.2)
    rw [cellsE_set] at hst
    have HST := Lib.hid hst
    have hkl : 0 < b.keys.length := by omega
    clear hst rK rB HRW
    go_upto_region 13 with fail
    go_cut [] (fun wx => Sep w wx (rowRes 31 2 (.slice (some ⟨gk, 0, none⟩) t.keys.length kq) (t.keys.length) (cellsE (t.keys.set i f)) :: blkRes p (.cells #[.slice (some ⟨gk, 0, none⟩) t.keys.length kq, .slice (some ⟨g, 0, none⟩) ps.length cq] 91 (0, 0)) :: blkRes qb (.cells #[.slice (some ⟨gkb, 0, none⟩) b.keys.length kqb, .slice cpb psb.length cqb] 91 (0, 0)) :: rowRes 31 2 (.slice (some ⟨gkb, 0, none⟩) b.keys.length kqb) (b.keys.length) (cellsE (b.keys)) :: (lf2)))
    case first =>
      go_region
      all_goals
        go_wp2_with fail
        go_meet
        exact HST.out.drew
    case rest =>
      obtain ⟨V3, hV2⟩ : ∃ V2 : World, V2 = wc := ⟨_, rfl⟩
      rw [← hV2] at hcut ⊢
      clear hV2
      have HS20 := Lib.hid hcut
      clear hcut HS13 HST p0 b0 d0 d1 e0 e1 fz0 fz1
      have HS21 := Lib.hid (show Sep w (V3) (rowRes 31 2 (.slice (some ⟨gkb, 0, none⟩) b.keys.length kqb) (b.keys.length) (cellsE (b.keys)) :: blkRes qb (.cells #[.slice (some ⟨gkb, 0, none⟩) b.keys.length kqb, .slice cpb psb.length cqb] 91 (0, 0)) :: rowRes 31 2 (.slice (some ⟨gk, 0, none⟩) t.keys.length kq) (t.keys.length) (cellsE (t.keys.set i f)) :: blkRes p (.cells #[.slice (some ⟨gk, 0, none⟩) t.keys.length kq, .slice (some ⟨g, 0, none⟩) ps.length cq] 91 (0, 0)) :: (lf2)) from HS20.out.reorder (by (intro x; simp only [List.count_append, List.count_cons, List.count_nil, List.cons_append, List.nil_append, List.append_assoc]; omega)))
      clear HS20
      have b0 : World.cell? (V3) ⟨qb, 0, none⟩ = some (.slice (some ⟨gkb, 0, none⟩) b.keys.length kqb) := cell_of_block (HS21.out.blkOf (g := qb) (o := .cells #[.slice (some ⟨gkb, 0, none⟩) b.keys.length kqb, .slice cpb psb.length cqb] 91 (0, 0)) (by simp)) 0 (v := .slice (some ⟨gkb, 0, none⟩) b.keys.length kqb) rfl
      have hdel := del_ent 0 (cellsE_one _) hkl (by omega) HS21.out
      rw [cellsE_take, cellsE_drop, ← cellsE_append, List.take_zero, List.nil_append, show ((0 : Nat) : Int) = (0 : Int) from rfl, show (0 : Int) + 1 = 1 from rfl] at hdel
      have HDEL := Lib.hid hdel; clear hdel
      go_wp2_with fail
      refine HDEL.out.mono ?_
      rintro r w9 ⟨p9, q9, rfl, hs9⟩
      clear HDEL b0
      have HS22 := Lib.hid (show Sep w (w9) (rowRes 31 2 (.slice p9 (b.keys.length - 1) q9) (b.keys.length - 1) (cellsE (b.keys.drop (0 + 1))) :: blkRes qb (.cells #[.slice (some ⟨gkb, 0, none⟩) b.keys.length kqb, .slice cpb psb.length cqb] 91 (0, 0)) :: rowRes 31 2 (.slice (some ⟨gk, 0, none⟩) t.keys.length kq) (t.keys.length) (cellsE (t.keys.set i f)) :: blkRes p (.cells #[.slice (some ⟨gk, 0, none⟩) t.keys.length kq, .slice (some ⟨g, 0, none⟩) ps.length cq] 91 (0, 0)) :: (lf2)) from hs9)
      clear HS21
      clear hs9
      have b0 : World.cell? (w9) ⟨qb, 0, none⟩ = some (.slice (some ⟨gkb, 0, none⟩) b.keys.length kqb) := cell_of_block (HS22.out.blkOf (g := qb) (o := .cells #[.slice (some ⟨gkb, 0, none⟩) b.keys.length kqb, .slice cpb psb.length cqb] 91 (0, 0)) (by simp)) 0 (v := .slice (some ⟨gkb, 0, none⟩) b.keys.length kqb) rfl
      have fb0 : World.frozen? (w9) ⟨qb, 0, none⟩ = false := free_of_block (HS22.out.blkOf (g := qb) (o := .cells #[.slice (some ⟨gkb, 0, none⟩) b.keys.length kqb, .slice cpb psb.length cqb] 91 (0, 0)) (by simp)) 0
      have HS23 := Lib.hid (show Sep w (World.setCell (w9) ⟨qb, 0, none⟩ (.slice p9 (b.keys.length - 1) q9)) (blkRes qb (.cells #[.slice p9 (b.keys.length - 1) q9, .slice cpb psb.length cqb] 91 (0, 0)) :: rowRes 31 2 (.slice p9 (b.keys.length - 1) q9) (b.keys.length - 1) (cellsE (b.keys.drop (0 + 1))) :: rowRes 31 2 (.slice (some ⟨gk, 0, none⟩) t.keys.length kq) (t.keys.length) (cellsE (t.keys.set i f)) :: blkRes p (.cells #[.slice (some ⟨gk, 0, none⟩) t.keys.length kq, .slice (some ⟨g, 0, none⟩) ps.length cq] 91 (0, 0)) :: (lf2)) from (HS22.out.up1).store 0 (.slice p9 (b.keys.length - 1) q9))
      clear HS22
      have HS24 := Lib.hid (show Sep w (World.setCell (w9) ⟨qb, 0, none⟩ (.slice p9 (b.keys.length - 1) q9)) (blkRes qb (.cells #[.slice p9 (b.keys.length - 1) q9, .slice cpb psb.length cqb] 91 (0, 0)) :: rowRes 31 2 (.slice p9 (b.keys.length - 1) q9) (b.keys.length - 1) (cellsE (b.keys.drop (0 + 1))) :: rowRes 31 2 (.slice (some ⟨gk, 0, none⟩) t.keys.length kq) (t.keys.length) (cellsE (t.keys.set i f)) :: blkRes p (.cells #[.slice (some ⟨gk, 0, none⟩) t.keys.length kq, .slice (some ⟨g, 0, none⟩) ps.length cq] 91 (0, 0)) :: blkRes qa (.cells #[.slice p4 (a.keys.length + 1) q4, .slice cpa psa.length cqa] 91 (0, 0)) :: rowRes 31 2 (.slice p4 (a.keys.length + 1) q4) (a.keys.length + 1) (cellsE (a.keys ++ [e])) :: rowRes 84 1 (.slice (some ⟨g, 0, none⟩) ps.length cq) (ps.length) ((ps).map ptrV) :: rowRes 84 1 (.slice cpa psa.length cqa) (psa.length) ((psa).map ptrV) :: rowRes 84 1 (.slice cpb psb.length cqb) (psb.length) ((psb).map ptrV) :: (List.zipWith (subRes h) psa a.kids ++ (List.zipWith (subRes h) psb b.kids ++ (List.zipWith (subRes (h + 1)) pa ca ++ (List.zipWith (subRes (h + 1)) pb cb ++ (l)))))) from by have h := HS23.out; rw [HLlf2.out] at h; exact h)
      clear HS23
      have b1 : World.cell? (World.setCell (w9) ⟨qb, 0, none⟩ (.slice p9 (b.keys.length - 1) q9)) ⟨qb, 1, none⟩ = some (.slice cpb psb.length cqb) := cell_of_block (HS24.out.blkOf (g := qb) (o := .cells #[.slice p9 (b.keys.length - 1) q9, .slice cpb psb.length cqb] 91 (0, 0)) (by simp)) 1 (v := .slice cpb psb.length cqb) rfl
      by_cases hz : psb.length = 0
      · have hz2 := hz
        rw [hz2] at b1
        have HZ := Lib.hid hz
        clear hz hz2
        go_wp2_with fail
        go_end0
        refine ⟨rfl, ?_⟩
        refine Sep.shutTwo (kv := .slice (some ⟨gk, 0, none⟩) t.keys.length kq) (cv := .slice (some ⟨g, 0, none⟩) ps.length cq) (kva := .slice p4 (a.keys.length + 1) q4) (cva := .slice cpa psa.length cqa) (kvb := .slice p9 (b.keys.length - 1) q9) (cvb := .slice cpb psb.length cqb) (n := t.keys.length) (m := ps.length) (na := a.keys.length + 1) (ma := psa.length) (nb := b.keys.length - 1) (mb := psb.length) (a := (.nd (a.keys ++ [e]) (a.kids ++ b.kids.take 1) : T)) (b := (.nd (b.keys.drop 1) (b.kids.drop 1) : T)) (ps := ps) (pa := pa) (pb := pb) (psa := psa) (psb := psb) (qa := qa) (qb := qb) ?_ rfl HPS.out HPA.out HPB.out ?_ ?_ ?_ ?_ ?_ ?_ (HS24.out.reorder ?_)
        · rw [List.length_set]
        · rw [T.keys_nd, List.length_append]; rfl
        · rfl
        · rw [T.kids_nd, List.length_append, List.length_take]; have := HPLA.out; have := HPLB.out; have := HZ.out; omega
        · rw [T.keys_nd, List.length_drop]
        · rfl
        · rw [T.kids_nd, List.length_drop]; have := HPLB.out; have := HZ.out; omega
        · simp only [T.kids_nd, T.keys_nd, Nat.zero_add]
          rw [show psb = [] from List.eq_nil_of_length_eq_zero HZ.out, show b.kids = [] from List.eq_nil_of_length_eq_zero (HPLB.out.symm.trans HZ.out)]
          simp only [List.take_nil, List.drop_nil, List.append_nil, List.zipWith_nil_left]
          (intro x; simp only [List.count_append, List.count_cons, List.count_nil, List.cons_append, List.nil_append, List.append_assoc]; omega)
      · have hpz : 0 < psb.length := by omega
        have hpa0 : psa.length = a.keys.length + 1 := by have := HPLA.out; have := HPLB.out; have := HKA.out; have := HKAB.out; omega
        obtain ⟨qz, hqz⟩ : ∃ qz, psb[0]? = some qz := ⟨_, List.getElem?_eq_getElem hpz⟩
        have rC := HS24.out.rowOf (e := 84) (size := 1) (v := .slice cpb psb.length cqb) (n := psb.length) (xs := psb.map ptrV) (by simp)
        obtain ⟨gcb, rfl, x1⟩ := kid_cell rC hqz
        have HQZ := Lib.hid hqz
        clear hqz rC hz hpa0
        go_upto_region 16 with fail
        generalize hV : World.setCell (w9) ⟨qb, 0, none⟩ (.slice p9 (b.keys.length - 1) q9) = V4 at HS24 b1 x1 ⊢
        clear hV
        have HS35 := Lib.hid (show Sep w (V4) (rowRes 84 1 (.slice cpa psa.length cqa) (psa.length) ((psa).map ptrV) :: blkRes qa (.cells #[.slice p4 (a.keys.length + 1) q4, .slice cpa psa.length cqa] 91 (0, 0)) :: blkRes qb (.cells #[.slice p9 (b.keys.length - 1) q9, .slice (some ⟨gcb, 0, none⟩) psb.length cqb] 91 (0, 0)) :: rowRes 84 1 (.slice (some ⟨gcb, 0, none⟩) psb.length cqb) (psb.length) ((psb).map ptrV) :: rowRes 31 2 (.slice p9 (b.keys.length - 1) q9) (b.keys.length - 1) (cellsE (b.keys.drop (0 + 1))) :: rowRes 31 2 (.slice (some ⟨gk, 0, none⟩) t.keys.length kq) (t.keys.length) (cellsE (t.keys.set i f)) :: blkRes p (.cells #[.slice (some ⟨gk, 0, none⟩) t.keys.length kq, .slice (some ⟨g, 0, none⟩) ps.length cq] 91 (0, 0)) :: rowRes 31 2 (.slice p4 (a.keys.length + 1) q4) (a.keys.length + 1) (cellsE (a.keys ++ [e])) :: rowRes 84 1 (.slice (some ⟨g, 0, none⟩) ps.length cq) (ps.length) ((ps).map ptrV) :: (List.zipWith (subRes h) psa a.kids ++ (List.zipWith (subRes h) psb b.kids ++ (List.zipWith (subRes (h + 1)) pa ca ++ (List.zipWith (subRes (h + 1)) pb cb ++ (l)))))) from HS24.out.reorder (by (intro x; simp only [List.count_append, List.count_cons, List.count_nil, List.cons_append, List.nil_append, List.append_assoc]; omega)))
        clear HS24
        obtain ⟨lf3, hlf3⟩ : ∃ lf3 : List Res, lf3 = rowRes 31 2 (.slice p9 (b.keys.length - 1) q9) (b.keys.length - 1) (cellsE (b.keys.drop (0 + 1))) :: rowRes 31 2 (.slice (some ⟨gk, 0, none⟩) t.keys.length kq) (t.keys.length) (cellsE (t.keys.set i f)) :: blkRes p (.cells #[.slice (some ⟨gk, 0, none⟩) t.keys.length kq, .slice (some ⟨g, 0, none⟩) ps.length cq] 91 (0, 0)) :: rowRes 31 2 (.slice p4 (a.keys.length + 1) q4) (a.keys.length + 1) (cellsE (a.keys ++ [e])) :: rowRes 84 1 (.slice (some ⟨g, 0, none⟩) ps.length cq) (ps.length) ((ps).map ptrV) :: (List.zipWith (subRes h) psa a.kids ++ (List.zipWith (subRes h) psb b.kids ++ (List.zipWith (subRes (h + 1)) pa ca ++ (List.zipWith (subRes (h + 1)) pb cb ++ (l))))) := ⟨_, rfl⟩
        have HS36 := Lib.hid (show Sep w (V4) (rowRes 84 1 (.slice cpa psa.length cqa) (psa.length) ((psa).map ptrV) :: blkRes qa (.cells #[.slice p4 (a.keys.length + 1) q4, .slice cpa psa.length cqa] 91 (0, 0)) :: blkRes qb (.cells #[.slice p9 (b.keys.length - 1) q9, .slice (some ⟨gcb, 0, none⟩) psb.length cqb] 91 (0, 0)) :: rowRes 84 1 (.slice (some ⟨gcb, 0, none⟩) psb.length cqb) (psb.length) ((psb).map ptrV) :: (lf3)) from by rw [hlf3]; exact HS35.out)
        have HLlf3 := Lib.hid hlf3
        clear hlf3 HS35
        have a1 : World.cell? (V4) ⟨qa, 1, none⟩ = some (.slice cpa psa.length cqa) := cell_of_block (HS36.out.blkOf (g := qa) (o := .cells #[.slice p4 (a.keys.length + 1) q4, .slice cpa psa.length cqa] 91 (0, 0)) (by simp)) 1 (v := .slice cpa psa.length cqa) rfl
        have a1a : World.cell? (V4.alloc (.cells #[.pointer (some ⟨qz, 0, none⟩)] 84)) ⟨qa, 1, none⟩ = some (.slice cpa psa.length cqa) := Lib.cell?_alloc_some _ a1
        have HA2 := Lib.hid ((Sep.forget (HS36.out) (.cells #[.pointer (some ⟨qz, 0, none⟩)] 84)).drew)
        have HNW : Hid (((V4.alloc (.cells #[.pointer (some ⟨qz, 0, none⟩)] 84)).drew).heap[V4.heap.size]? = some (.cells #[.pointer (some ⟨qz, 0, none⟩)] 84 (0, 0))) := heap_alloc_self (w := V4)
        go_cut [] (fun wx => ∃ (p8 : Option Addr) (q8 : Nat), Sep w wx (blkRes qa (.cells #[.slice p4 (a.keys.length + 1) q4, .slice p8 (psa.length + 1) q8] 91 (0, 0)) :: rowRes 84 1 (.slice p8 (psa.length + 1) q8) (psa.length + 1) ((psa ++ [qz]).map ptrV) :: blkRes qb (.cells #[.slice p9 (b.keys.length - 1) q9, .slice (some ⟨gcb, 0, none⟩) psb.length cqb] 91 (0, 0)) :: rowRes 84 1 (.slice (some ⟨gcb, 0, none⟩) psb.length cqb) (psb.length) ((psb).map ptrV) :: (lf3)))
        case first =>
          refine wp_region_last (S := (fun w' => w'.cell? ⟨qa, 1, none⟩ = some (.slice cpa psa.length cqa) ∧ w'.cell? ⟨qb, 1, none⟩ = some (.slice (some ⟨gcb, 0, none⟩) psb.length cqb) ∧ w'.cell? ⟨gcb, 0, none⟩ = some (.pointer (some ⟨qz, 0, none⟩)))) (by kernel_rfl) 15 _ rfl rfl rfl (by kernel_rfl) [14, 13, 12, 11, 10, 9, 8, 7, 6, 5, 4, 3, 2, 1, 0] (by kernel_rfl) (by kernel_rfl) ?_ (fun hHeld => ?_)
          · (try dsimp only); (first | go_keep | (refine ⟨?_, ?_, ?_⟩ <;> assumption))
          simp only [lull, List.setIfInBounds_toArray, List.set_cons_succ, List.set_cons_zero]
          refine wpAnyH_take (i := 0) (v := ?_) rfl (by kernel_rfl) (by kernel_rfl) (by kernel_rfl) (fun _ _ _ h => h) (Or.inl ⟨by rfl, ?_⟩) (by assumption) ?_
          rotate_left
          · (intro w hSw; (try dsimp only at hSw); go_simp; try with_reducible rfl)
          (try simp only [Act.put, List.setIfInBounds_toArray, List.set_cons_zero, List.set_cons_succ])
          refine wpAnyH_take (i := 1) (v := ?_) rfl (by kernel_rfl) (by kernel_rfl) (by kernel_rfl) (fun _ _ _ h => h) (Or.inl ⟨by rfl, ?_⟩) (by assumption) ?_
          rotate_left
          · (intro w hSw; (try dsimp only at hSw); go_simp; try with_reducible rfl)
          (try simp only [Act.put, List.setIfInBounds_toArray, List.set_cons_zero, List.set_cons_succ])
          refine wpAnyH_take (i := 2) (v := ?_) rfl (by kernel_rfl) (by kernel_rfl) (by kernel_rfl) (fun _ _ _ h => h) (Or.inl ⟨by rfl, ?_⟩) (by assumption) ?_
          rotate_left
          · (intro w hSw; (try dsimp only at hSw); go_simp; try with_reducible rfl)
          (try simp only [Act.put, List.setIfInBounds_toArray, List.set_cons_zero, List.set_cons_succ])
          refine wpAnyH_take (i := 3) (v := ?_) rfl (by kernel_rfl) (by kernel_rfl) (by kernel_rfl) (fun _ _ _ h => h) (Or.inl ⟨by rfl, ?_⟩) (by assumption) ?_
          rotate_left
          · (intro w hSw; (try dsimp only at hSw); go_simp; try with_reducible rfl)
          (try simp only [Act.put, List.setIfInBounds_toArray, List.set_cons_zero, List.set_cons_succ])
          refine wpAnyH_take (i := 4) (v := ?_) rfl (by kernel_rfl) (by kernel_rfl) (by kernel_rfl) (fun _ _ _ h => h) (Or.inl ⟨by rfl, ?_⟩) (by assumption) ?_
          rotate_left
          · (intro w hSw; (try dsimp only at hSw); go_simp; try with_reducible rfl)
          (try simp only [Act.put, List.setIfInBounds_toArray, List.set_cons_zero, List.set_cons_succ])
          refine wpAnyH_take (i := 5) (v := ?_) rfl (by kernel_rfl) (by kernel_rfl) (by kernel_rfl) (fun _ _ _ h => h) (Or.inl ⟨by rfl, ?_⟩) (by assumption) ?_
          rotate_left
          · (intro w hSw; (try dsimp only at hSw); go_simp; try with_reducible rfl)
          (try simp only [Act.put, List.setIfInBounds_toArray, List.set_cons_zero, List.set_cons_succ])
          refine wpAnyH_take (i := 6) (v := ?_) rfl (by kernel_rfl) (by kernel_rfl) (by kernel_rfl) (fun _ _ _ h => h) (Or.inl ⟨by rfl, ?_⟩) (by assumption) ?_
          rotate_left
          · (intro w hSw; (try dsimp only at hSw); go_simp; try with_reducible rfl)
          (try simp only [Act.put, List.setIfInBounds_toArray, List.set_cons_zero, List.set_cons_succ])
          refine wpAnyH_take (i := 7) (v := ?_) rfl (by kernel_rfl) (by kernel_rfl) (by kernel_rfl) (fun _ _ _ h => h) (Or.inl ⟨by rfl, ?_⟩) (by assumption) ?_
          rotate_left
          · (intro w hSw; (try dsimp only at hSw); go_simp; try with_reducible rfl)
          (try simp only [Act.put, List.setIfInBounds_toArray, List.set_cons_zero, List.set_cons_succ])
          refine wpAnyH_take (i := 8) (v := ?_) rfl (by kernel_rfl) (by kernel_rfl) (by kernel_rfl) (fun _ _ _ h => h) (Or.inl ⟨by rfl, ?_⟩) (by assumption) ?_
          rotate_left
          · (intro w hSw; (try dsimp only at hSw); go_simp; try with_reducible rfl)
          (try simp only [Act.put, List.setIfInBounds_toArray, List.set_cons_zero, List.set_cons_succ])
          refine wpAnyH_take (i := 9) (v := ?_) rfl (by kernel_rfl) (by kernel_rfl) (by kernel_rfl) (fun _ _ _ h => h) (Or.inl ⟨by rfl, ?_⟩) (by assumption) ?_
          rotate_left
          · (intro w hSw; (try dsimp only at hSw); go_simp; try with_reducible rfl)
          (try simp only [Act.put, List.setIfInBounds_toArray, List.set_cons_zero, List.set_cons_succ])
          refine wpAnyH_take (i := 10) (v := ?_) rfl (by kernel_rfl) (by kernel_rfl) (by kernel_rfl) (fun _ _ _ h => h) (Or.inl ⟨by rfl, ?_⟩) (by assumption) ?_
          rotate_left
          · (intro w hSw; (try dsimp only at hSw); go_simp; try with_reducible rfl)
          (try simp only [Act.put, List.setIfInBounds_toArray, List.set_cons_zero, List.set_cons_succ])
          refine wpAnyH_ready (rs := [11]) (by kernel_rfl) (by simp) ?_
          refine AllReadyH.cons rfl (fun K hK => ?_) ?_
          · go_simp
            refine hK.out _ _ ?_ (fun hH1 => ?_)
            · (try dsimp only); (first | go_keep | (refine ⟨?_, ?_, ?_⟩ <;> assumption))
            clear hK K hHeld
            (try simp only [Act.put, List.setIfInBounds_toArray, List.set_cons_zero, List.set_cons_succ])
            refine wpAnyH_ready (rs := [12]) (by kernel_rfl) (by simp) ?_
            refine AllReadyH.cons rfl (fun K hK => ?_) ?_
            · (refine step_append_sep (w := w) (e := 84) rfl (.tmp 213) (.tmp 220) 89 rfl ip _ 1 8 Try.underlying89 IP.out rfl (by decide) (.slice cpa psa.length cqa) psa.length (psa.map ptrV) rfl rfl HNW.out rfl (ptr_one qz) HA2.out (by unfold maxLen; omega) (by omega) ?_; intro p8 q8 w8 hs8; have HS37 := Lib.hid (show Sep w (w8) (rowRes 84 1 (.slice p8 (psa.length + 1) q8) (psa.length + 1) ((psa ++ [qz]).map ptrV) :: blkRes qa (.cells #[.slice p4 (a.keys.length + 1) q4, .slice cpa psa.length cqa] 91 (0, 0)) :: blkRes qb (.cells #[.slice p9 (b.keys.length - 1) q9, .slice (some ⟨gcb, 0, none⟩) psb.length cqb] 91 (0, 0)) :: rowRes 84 1 (.slice (some ⟨gcb, 0, none⟩) psb.length cqb) (psb.length) ((psb).map ptrV) :: (lf3)) from (by have h8 := hs8; rw [show psa.map ptrV ++ (#[Value.pointer (some ⟨qz, 0, none⟩)] : Array Value).toList = (psa ++ [qz]).map ptrV from by rw [List.map_append]; rfl] at h8; exact h8)); clear HS36; have a1n : World.cell? (w8) ⟨qa, 1, none⟩ = some (.slice cpa psa.length cqa) := cell_of_block (HS37.out.blkOf (g := qa) (o := .cells #[.slice p4 (a.keys.length + 1) q4, .slice cpa psa.length cqa] 91 (0, 0)) (by simp)) 1 (v := .slice cpa psa.length cqa) rfl; have fa1 : World.frozen? (w8) ⟨qa, 1, none⟩ = false := free_of_block (HS37.out.blkOf (g := qa) (o := .cells #[.slice p4 (a.keys.length + 1) q4, .slice cpa psa.length cqa] 91 (0, 0)) (by simp)) 1; have b1n : World.cell? (w8) ⟨qb, 1, none⟩ = some (.slice (some ⟨gcb, 0, none⟩) psb.length cqb) := cell_of_block (HS37.out.blkOf (g := qb) (o := .cells #[.slice p9 (b.keys.length - 1) q9, .slice (some ⟨gcb, 0, none⟩) psb.length cqb] 91 (0, 0)) (by simp)) 1 (v := .slice (some ⟨gcb, 0, none⟩) psb.length cqb) rfl; have rCn := HS37.out.rowOf (e := 84) (size := 1) (v := .slice (some ⟨gcb, 0, none⟩) psb.length cqb) (n := psb.length) (xs := psb.map ptrV) (by simp); obtain ⟨_, he, x1n⟩ := kid_cell rCn HQZ.out; cases he; clear rCn; clear hs8)
              refine hK.out _ _ ?_ (fun hH2 => ?_)
              · (try dsimp only); (first | go_keep | (refine ⟨?_, ?_, ?_⟩ <;> assumption))
              clear hK K hH1
              (try simp only [Act.put, List.setIfInBounds_toArray, List.set_cons_zero, List.set_cons_succ])
              refine wpAnyH_take (i := 13) (v := ?_) rfl (by kernel_rfl) (by kernel_rfl) (by kernel_rfl) (fun _ _ _ h => h) (Or.inl ⟨by rfl, ?_⟩) (by assumption) ?_
              rotate_left
              · (intro w hSw; (try dsimp only at hSw); go_simp; try with_reducible rfl)
              (try simp only [Act.put, List.setIfInBounds_toArray, List.set_cons_zero, List.set_cons_succ])
              refine wpAnyH_take (i := 14) (v := ?_) rfl (by kernel_rfl) (by kernel_rfl) (by kernel_rfl) (fun _ _ _ h => h) (Or.inl ⟨by rfl, ?_⟩) (by assumption) ?_
              rotate_left
              · (intro w hSw; (try dsimp only at hSw); go_simp; try with_reducible rfl)
              (try simp only [Act.put, List.setIfInBounds_toArray, List.set_cons_zero, List.set_cons_succ])
              refine wpAnyH_take (i := 15) (v := ?_) rfl (by kernel_rfl) (by kernel_rfl) (by kernel_rfl) (fun _ _ _ h => h) (Or.inl ⟨by rfl, ?_⟩) (by assumption) ?_
              rotate_left
              · (intro w hSw; (try dsimp only at hSw); go_simp; try with_reducible rfl)
              (try simp only [Act.put, List.setIfInBounds_toArray, List.set_cons_zero, List.set_cons_succ])
              refine wpAnyH_done (by kernel_rfl) ?_ _
              refine tail_run rfl rfl ?_
              clear hH2
              have HS38 := Lib.hid (show Sep w (World.setCell (w8) ⟨qa, 1, none⟩ (.slice p8 (psa.length + 1) q8)) (blkRes qa (.cells #[.slice p4 (a.keys.length + 1) q4, .slice p8 (psa.length + 1) q8] 91 (0, 0)) :: rowRes 84 1 (.slice p8 (psa.length + 1) q8) (psa.length + 1) ((psa ++ [qz]).map ptrV) :: blkRes qb (.cells #[.slice p9 (b.keys.length - 1) q9, .slice (some ⟨gcb, 0, none⟩) psb.length cqb] 91 (0, 0)) :: rowRes 84 1 (.slice (some ⟨gcb, 0, none⟩) psb.length cqb) (psb.length) ((psb).map ptrV) :: (lf3)) from (HS37.out.up1).store 1 (.slice p8 (psa.length + 1) q8))
              clear HS37
              go_simp
              go_wp2_with fail
              go_meet
              exact ⟨p8, q8, HS38.out⟩
            exact AllReadyH.nil
          exact AllReadyH.nil
        case rest =>
          obtain ⟨p8, q8, hs9⟩ := hcut
          obtain ⟨V5, hV2⟩ : ∃ V2 : World, V2 = wc := ⟨_, rfl⟩
          rw [← hV2] at hs9 ⊢
          clear hV2
          have HS40 := Lib.hid hs9
          clear hs9 HS36 HA2 HNW a1 a1a b1 x1
          have HS41 := Lib.hid (show Sep w (V5) (rowRes 84 1 (.slice (some ⟨gcb, 0, none⟩) psb.length cqb) (psb.length) ((psb).map ptrV) :: blkRes qb (.cells #[.slice p9 (b.keys.length - 1) q9, .slice (some ⟨gcb, 0, none⟩) psb.length cqb] 91 (0, 0)) :: blkRes qa (.cells #[.slice p4 (a.keys.length + 1) q4, .slice p8 (psa.length + 1) q8] 91 (0, 0)) :: rowRes 84 1 (.slice p8 (psa.length + 1) q8) (psa.length + 1) ((psa ++ [qz]).map ptrV) :: (lf3)) from HS40.out.reorder (by (intro x; simp only [List.count_append, List.count_cons, List.count_nil, List.cons_append, List.nil_append, List.append_assoc]; omega)))
          clear HS40
          have b1 : World.cell? (V5) ⟨qb, 1, none⟩ = some (.slice (some ⟨gcb, 0, none⟩) psb.length cqb) := cell_of_block (HS41.out.blkOf (g := qb) (o := .cells #[.slice p9 (b.keys.length - 1) q9, .slice (some ⟨gcb, 0, none⟩) psb.length cqb] 91 (0, 0)) (by simp)) 1 (v := .slice (some ⟨gcb, 0, none⟩) psb.length cqb) rfl
          have hdel := del_ptr 0 (ptrs_one _) hpz (by omega) HS41.out
          rw [← List.map_take, ← List.map_drop, ← List.map_append, List.take_zero, List.nil_append, show ((0 : Nat) : Int) = (0 : Int) from rfl, show (0 : Int) + 1 = 1 from rfl] at hdel
          have HDEL := Lib.hid hdel; clear hdel
          go_wp2_with fail
          refine HDEL.out.mono ?_
          rintro r w11 ⟨p11, q11, rfl, hs11⟩
          clear HDEL b1
          have HS42 := Lib.hid (show Sep w (w11) (rowRes 84 1 (.slice p11 (psb.length - 1) q11) (psb.length - 1) ((psb.drop (0 + 1)).map ptrV) :: blkRes qb (.cells #[.slice p9 (b.keys.length - 1) q9, .slice (some ⟨gcb, 0, none⟩) psb.length cqb] 91 (0, 0)) :: blkRes qa (.cells #[.slice p4 (a.keys.length + 1) q4, .slice p8 (psa.length + 1) q8] 91 (0, 0)) :: rowRes 84 1 (.slice p8 (psa.length + 1) q8) (psa.length + 1) ((psa ++ [qz]).map ptrV) :: (lf3)) from hs11)
          clear HS41
          clear hs11
          have b1 : World.cell? (w11) ⟨qb, 1, none⟩ = some (.slice (some ⟨gcb, 0, none⟩) psb.length cqb) := cell_of_block (HS42.out.blkOf (g := qb) (o := .cells #[.slice p9 (b.keys.length - 1) q9, .slice (some ⟨gcb, 0, none⟩) psb.length cqb] 91 (0, 0)) (by simp)) 1 (v := .slice (some ⟨gcb, 0, none⟩) psb.length cqb) rfl
          have fb1 : World.frozen? (w11) ⟨qb, 1, none⟩ = false := free_of_block (HS42.out.blkOf (g := qb) (o := .cells #[.slice p9 (b.keys.length - 1) q9, .slice (some ⟨gcb, 0, none⟩) psb.length cqb] 91 (0, 0)) (by simp)) 1
          have HS43 := Lib.hid (show Sep w (World.setCell (w11) ⟨qb, 1, none⟩ (.slice p11 (psb.length - 1) q11)) (blkRes qb (.cells #[.slice p9 (b.keys.length - 1) q9, .slice p11 (psb.length - 1) q11] 91 (0, 0)) :: rowRes 84 1 (.slice p11 (psb.length - 1) q11) (psb.length - 1) ((psb.drop (0 + 1)).map ptrV) :: blkRes qa (.cells #[.slice p4 (a.keys.length + 1) q4, .slice p8 (psa.length + 1) q8] 91 (0, 0)) :: rowRes 84 1 (.slice p8 (psa.length + 1) q8) (psa.length + 1) ((psa ++ [qz]).map ptrV) :: (lf3)) from (HS42.out.up1).store 1 (.slice p11 (psb.length - 1) q11))
          clear HS42
          have HS44 := Lib.hid (show Sep w (World.setCell (w11) ⟨qb, 1, none⟩ (.slice p11 (psb.length - 1) q11)) (blkRes qb (.cells #[.slice p9 (b.keys.length - 1) q9, .slice p11 (psb.length - 1) q11] 91 (0, 0)) :: rowRes 84 1 (.slice p11 (psb.length - 1) q11) (psb.length - 1) ((psb.drop (0 + 1)).map ptrV) :: blkRes qa (.cells #[.slice p4 (a.keys.length + 1) q4, .slice p8 (psa.length + 1) q8] 91 (0, 0)) :: rowRes 84 1 (.slice p8 (psa.length + 1) q8) (psa.length + 1) ((psa ++ [qz]).map ptrV) :: rowRes 31 2 (.slice p9 (b.keys.length - 1) q9) (b.keys.length - 1) (cellsE (b.keys.drop (0 + 1))) :: rowRes 31 2 (.slice (some ⟨gk, 0, none⟩) t.keys.length kq) (t.keys.length) (cellsE (t.keys.set i f)) :: blkRes p (.cells #[.slice (some ⟨gk, 0, none⟩) t.keys.length kq, .slice (some ⟨g, 0, none⟩) ps.length cq] 91 (0, 0)) :: rowRes 31 2 (.slice p4 (a.keys.length + 1) q4) (a.keys.length + 1) (cellsE (a.keys ++ [e])) :: rowRes 84 1 (.slice (some ⟨g, 0, none⟩) ps.length cq) (ps.length) ((ps).map ptrV) :: (List.zipWith (subRes h) psa a.kids ++ (List.zipWith (subRes h) psb b.kids ++ (List.zipWith (subRes (h + 1)) pa ca ++ (List.zipWith (subRes (h + 1)) pb cb ++ (l)))))) from by have h := HS43.out; rw [HLlf3.out] at h; exact h)
          clear HS43
          go_wp2_with fail
          go_end0
          refine ⟨rfl, ?_⟩
          have htk : psb.take 1 = [qz] := by
            cases psb with
            | nil => simp at hpz
            | cons z l => have := HQZ.out; simp at this; rw [this]; rfl
          refine Sep.shutTwo (kv := .slice (some ⟨gk, 0, none⟩) t.keys.length kq) (cv := .slice (some ⟨g, 0, none⟩) ps.length cq) (kva := .slice p4 (a.keys.length + 1) q4) (cva := .slice p8 (psa.length + 1) q8) (kvb := .slice p9 (b.keys.length - 1) q9) (cvb := .slice p11 (psb.length - 1) q11) (n := t.keys.length) (m := ps.length) (na := a.keys.length + 1) (ma := psa.length + 1) (nb := b.keys.length - 1) (mb := psb.length - 1) (a := (.nd (a.keys ++ [e]) (a.kids ++ b.kids.take 1) : T)) (b := (.nd (b.keys.drop 1) (b.kids.drop 1) : T)) (ps := ps) (pa := pa) (pb := pb) (psa := psa ++ [qz]) (psb := psb.drop 1) (qa := qa) (qb := qb) ?_ rfl HPS.out HPA.out HPB.out ?_ ?_ ?_ ?_ ?_ ?_ (HS44.out.reorder ?_)
          · rw [List.length_set]
          · rw [T.keys_nd, List.length_append]; rfl
          · rw [List.length_append]; rfl
          · rw [T.kids_nd, List.length_append, List.length_append, List.length_take]; have := HPLA.out; have := HPLB.out; simp; omega
          · rw [T.keys_nd, List.length_drop]
          · rw [List.length_drop]
          · rw [T.kids_nd, List.length_drop, List.length_drop]; have := HPLB.out; omega
          · simp only [T.kids_nd, T.keys_nd, Nat.zero_add]
            rw [zip_split (subRes h) 1 psb b.kids HPLB.out, htk, List.zipWith_append HPLA.out]
            (intro x; simp only [List.count_append, List.count_cons, List.count_nil, List.cons_append, List.nil_append, List.append_assoc]; omega)


end Go.Proofs.Ytpaffpiaoanegaa
