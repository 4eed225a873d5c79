/-
  What is proved here: a child gets a key of the one beside it ((*node).fill of package tree).
  No condition: each lemma names its own.
-/
import Derived.Test.YtpaffpiaoanegaaTreeU
import Derived.Test.YtpaffpiaoanegaaTreeL
import Derived.Test.YtpaffpiaoanegaaLast
set_option linter.unusedVariables false
set_option linter.unusedSimpArgs false
namespace Go.Proofs.Ytpaffpiaoanegaa
open Go.RowKit

/-- A row cut short. -/
theorem Sep.rowCut {w W : World} {e : TypeId} {size g n q : Nat} {xs : List Value} {l : List Res} (h : Sep w W (rowRes e size (.slice (some ⟨g, 0, none⟩) n q) n xs :: l)) (m : Nat) (hm : m ≤ n) :
    Sep w W (rowRes e size (.slice (some ⟨g, 0, none⟩) m q) m (xs.take (m * size)) :: l) := by
  refine h.turn ?_
  rintro F ⟨ho, rfl⟩
  refine ⟨_, ⟨⟨?_, .inr ?_⟩, rfl⟩, Only.refl _ _, Within.refl _ _⟩
  · rw [List.length_take, ho.1]; exact Nat.min_eq_left (Nat.mul_le_mul_right _ hm)
  · rcases ho.2 with ⟨h1, _⟩ | ⟨g', cap, cur, hv, hb, hg, h1, h2, h3, h4⟩
    · cases h1
    · simp only [Value.slice.injEq, Option.some.injEq, Addr.mk.injEq, and_true, true_and] at hv
      obtain ⟨rfl, rfl⟩ := hv
      refine ⟨g, q, cur, rfl, hb, hg, by omega, h2, h3, ?_⟩
      rw [← h4, List.take_take, Nat.min_eq_left (Nat.mul_le_mul_right _ hm)]

theorem ent_one (e : E) : ∀ u ∈ (#[Value.string e.1, Value.int .i64 e.2] : Array Value).toList, u.oneCell' = true := by intro u hu; simp at hu; rcases hu with h | h <;> subst h <;> rfl
theorem ptr_one (q : Nat) : ∀ u ∈ (#[Value.pointer (some ⟨q, 0, none⟩)] : Array Value).toList, u.oneCell' = true := by intro u hu; simp at hu; subst hu; rfl

set_option maxRecDepth 100000 in
set_option maxHeartbeats 4000000 in
theorem fill_left {w W : World} {l : List Res} {h p : Nat} {t a b : T} {e : E} {i j lst : Nat} {ka kb : List E} {ca cb : List T} (hs : Sep w W (nodeRes (h + 1) p t :: l)) (hk : t.keys = ka ++ e :: kb) (ht : t.kids = ca ++ a :: b :: cb) (hki : ka.length = j) (hi : ca.length = j) (htn : t.keys.length ≤ 100) (htk : t.kids.length ≤ 101) (han : a.keys.length ≤ 100) (hbn : b.keys.length ≤ 100) (hak : a.kids.length ≤ 101) (hbk : b.kids.length ≤ 101) (hlst : lst ≤ 100)
    (hij : i = j + 1) {k : Nat} (hkk : a.keys.length = k + 1) (hla : lst < a.keys.length) (hka : a.kids.length = 0 ∨ a.kids.length = a.keys.length + 1) :
    Calls Try.prog 45 #[.pointer (some ⟨p, 0, none⟩), .int .i64 i, .int .i64 lst] W fun r W' => r = .returned (.tuple #[]) ∧ Sep w W' (nodeRes (h + 1) p (.nd (t.keys.set j a.keys[k]!) (ca ++ (.nd (a.keys.take k) (a.kids.take (k + 1)) : T) :: (.nd (e :: b.keys) (a.kids.drop (k + 1) ++ b.kids) : T) :: cb)) :: l) := by
  obtain ⟨ie, IE⟩ := info_of Try.infoEnt
  obtain ⟨ip, IP⟩ := info_of Try.infoNode
  obtain ⟨kp, kq, g, cq, ps, pa, pb, qa, qb, kpa, kqa, cpa, cqa, psa, kpb, kqb, cpb, cqb, psb, hps, hpa, hpb, hpla, hplb, hs0⟩ := hs.open2 ht
  have hpsl : ps.length = t.kids.length := by rw [hps, ht]; simp only [List.length_append, List.length_cons]; omega
  have rP := hs0.rowOf (e := 84) (size := 1) (v := .slice (some ⟨g, 0, none⟩) ps.length cq) (n := ps.length) (xs := ps.map ptrV) (by simp)
  have ga : ps[j]? = some qa := by rw [hps, List.getElem?_append_right (by omega), hpa, hi, Nat.sub_self]; rfl
  have gb : ps[j + 1]? = some qb := by rw [hps, List.getElem?_append_right (by omega), hpa, hi, show j + 1 - j = 1 by omega]; rfl
  obtain ⟨_, he, c1⟩ := kid_cell rP ga
  cases he
  obtain ⟨_, he, c2⟩ := kid_cell rP gb
  cases he
  have hil : j < ps.length := (List.getElem?_eq_some_iff.1 ga).1
  have hil2 : j + 1 < ps.length := (List.getElem?_eq_some_iff.1 gb).1
  have hpn : ps.length ≤ 101 := by omega
  have hkn : j < t.keys.length := by rw [hk]; simp; omega
  have hke : t.keys[j]? = some e := by rw [hk, List.getElem?_append_right (by omega), hki, Nat.sub_self]; rfl
  have hpla2 : psa.length ≤ 101 := by omega
  have hplb2 : psb.length ≤ 101 := by omega
  have hks : psa.length = 0 ∨ psa.length = a.keys.length + 1 := by rw [hpla]; exact hka
  have hke2 : ∃ f, f = a.keys[k]! ∧ a.keys[k]? = some f := ⟨_, rfl, by rw [getElem!_pos a.keys k (by omega)]; exact List.getElem?_eq_getElem (by omega)⟩
  obtain ⟨f, hf, hke2⟩ := hke2
  rw [← hf]
  have HF := Lib.hid hf
  have HKE2 := Lib.hid hke2
  clear hf hke2
  have HS0 := Lib.hid (show Sep w W (blkRes p (.cells #[.slice kp t.keys.length kq, .slice (some ⟨g, 0, none⟩) ps.length cq] 91 (0, 0)) :: rowRes 31 2 (.slice kp t.keys.length kq) (t.keys.length) (cellsE (t.keys)) :: rowRes 84 1 (.slice (some ⟨g, 0, none⟩) ps.length cq) (ps.length) ((ps).map ptrV) :: blkRes qa (.cells #[.slice kpa a.keys.length kqa, .slice cpa psa.length cqa] 91 (0, 0)) :: rowRes 31 2 (.slice kpa a.keys.length kqa) (a.keys.length) (cellsE (a.keys)) :: rowRes 84 1 (.slice cpa psa.length cqa) (psa.length) ((psa).map ptrV) :: blkRes qb (.cells #[.slice kpb b.keys.length kqb, .slice cpb psb.length cqb] 91 (0, 0)) :: rowRes 31 2 (.slice kpb b.keys.length kqb) (b.keys.length) (cellsE (b.keys)) :: rowRes 84 1 (.slice cpb psb.length cqb) (psb.length) ((psb).map ptrV) :: (List.zipWith (subRes h) psa a.kids ++ (List.zipWith (subRes h) psb b.kids ++ (List.zipWith (subRes (h + 1)) pa ca ++ (List.zipWith (subRes (h + 1)) pb cb ++ (l)))))) from hs0)
  have HPS := Lib.hid hps
  have HT := Lib.hid ht
  have HK := Lib.hid hk
  have HI := Lib.hid hi
  have HKI := Lib.hid hki
  have HPA := Lib.hid hpa
  have HPB := Lib.hid hpb
  have HPLA := Lib.hid hpla
  have HPLB := Lib.hid hplb
  have HKE := Lib.hid hke
  clear hs hs0 rP hps ht hk hi hki hpa hpb hpla hplb hke ga gb hpsl
  have p1 : World.cell? (W) ⟨p, 1, none⟩ = some (.slice (some ⟨g, 0, none⟩) ps.length cq) := cell_of_block (HS0.out.blkOf (g := p) (o := .cells #[.slice kp t.keys.length kq, .slice (some ⟨g, 0, none⟩) ps.length cq] 91 (0, 0)) (by simp)) 1 (v := .slice (some ⟨g, 0, none⟩) ps.length cq) rfl
  have a0 : World.cell? (W) ⟨qa, 0, none⟩ = some (.slice kpa a.keys.length kqa) := cell_of_block (HS0.out.blkOf (g := qa) (o := .cells #[.slice kpa a.keys.length kqa, .slice cpa psa.length cqa] 91 (0, 0)) (by simp)) 0 (v := .slice kpa a.keys.length kqa) rfl
  have hw0 : (0 : Int) < (i : Int) := by omega
  have hw10 : (1 : Int) ≤ (i : Int) := by omega
  have hw1 : IntKind.i64.wrap ((i : Int) - 1) = (i : Int) - 1 := IntWalk.i64_in _ (by omega)
  have hw2 : (0 : Int) ≤ (i : Int) - 1 := by omega
  have hw3 : ((i : Int) - 1).toNat = j := by omega
  have hw4 : (i : Int) - 1 < (ps.length : Int) := by omega
  have hw5 : (lst : Int) < (a.keys.length : Int) := by omega
  have hw6 : (a.keys.length : Int) - 1 = (k : Int) := by omega
  have hw7 : (i : Int) - 1 < (t.keys.length : Int) := by omega
  have hw8 : (i : Int) < (ps.length : Int) := by omega
  have hw9 : i < ps.length := by omega
  have HIJ := Lib.hid hij
  have HKK := Lib.hid hkk
  have c2 : W.cell? ⟨g, i, none⟩ = some (.pointer (some ⟨qb, 0, none⟩)) := by rw [hij]; exact c2
  clear hij hkk
  go_enter Try.func45, Try.ntmps45
  go_wp2_with fail
  go_quiet (fail)
  have HS1 := Lib.hid (show Sep w (W.drewN nq) (blkRes p (.cells #[.slice kp t.keys.length kq, .slice (some ⟨g, 0, none⟩) ps.length cq] 91 (0, 0)) :: rowRes 31 2 (.slice kp t.keys.length kq) (t.keys.length) (cellsE (t.keys)) :: rowRes 84 1 (.slice (some ⟨g, 0, none⟩) ps.length cq) (ps.length) ((ps).map ptrV) :: blkRes qa (.cells #[.slice kpa a.keys.length kqa, .slice cpa psa.length cqa] 91 (0, 0)) :: rowRes 31 2 (.slice kpa a.keys.length kqa) (a.keys.length) (cellsE (a.keys)) :: rowRes 84 1 (.slice cpa psa.length cqa) (psa.length) ((psa).map ptrV) :: blkRes qb (.cells #[.slice kpb b.keys.length kqb, .slice cpb psb.length cqb] 91 (0, 0)) :: rowRes 31 2 (.slice kpb b.keys.length kqb) (b.keys.length) (cellsE (b.keys)) :: rowRes 84 1 (.slice cpb psb.length cqb) (psb.length) ((psb).map ptrV) :: (List.zipWith (subRes h) psa a.kids ++ (List.zipWith (subRes h) psb b.kids ++ (List.zipWith (subRes (h + 1)) pa ca ++ (List.zipWith (subRes (h + 1)) pb cb ++ (l)))))) from HS0.out.only (Only.drewN [] _ nq))
  clear HS0
  generalize hV : W.drewN nq = V at HS1 ⊢
  clear hV p1 a0 c1 c2
  have p0 : World.cell? (V) ⟨p, 0, none⟩ = some (.slice kp t.keys.length kq) := cell_of_block (HS1.out.blkOf (g := p) (o := .cells #[.slice kp t.keys.length kq, .slice (some ⟨g, 0, none⟩) ps.length cq] 91 (0, 0)) (by simp)) 0 (v := .slice kp t.keys.length kq) rfl
  have a0 : World.cell? (V) ⟨qa, 0, none⟩ = some (.slice kpa a.keys.length kqa) := cell_of_block (HS1.out.blkOf (g := qa) (o := .cells #[.slice kpa a.keys.length kqa, .slice cpa psa.length cqa] 91 (0, 0)) (by simp)) 0 (v := .slice kpa a.keys.length kqa) rfl
  have b0 : World.cell? (V) ⟨qb, 0, none⟩ = some (.slice kpb b.keys.length kqb) := cell_of_block (HS1.out.blkOf (g := qb) (o := .cells #[.slice kpb b.keys.length kqb, .slice cpb psb.length cqb] 91 (0, 0)) (by simp)) 0 (v := .slice kpb b.keys.length kqb) rfl
  have rK := HS1.out.rowOf (e := 31) (size := 2) (v := .slice kp t.keys.length kq) (n := t.keys.length) (xs := cellsE t.keys) (by simp)
  have rA := HS1.out.rowOf (e := 31) (size := 2) (v := .slice kpa a.keys.length kqa) (n := a.keys.length) (xs := cellsE a.keys) (by simp)
  obtain ⟨gk, rfl, d0, d1⟩ := keyCells rK HKE.out
  obtain ⟨gka, rfl, _, _⟩ := keyCells rA HKE2.out
  have hcap : a.keys.length ≤ kqa := row_cap rA
  clear rK rA
  have hcap2 : k ≤ kqa := by have := HKK.out; omega
  have HS2 := Lib.hid (show Sep w (V) (rowRes 31 2 (.slice kpb b.keys.length kqb) (b.keys.length) (cellsE (b.keys)) :: blkRes qb (.cells #[.slice kpb b.keys.length kqb, .slice cpb psb.length cqb] 91 (0, 0)) :: rowRes 31 2 (.slice (some ⟨gk, 0, none⟩) t.keys.length kq) (t.keys.length) (cellsE (t.keys)) :: blkRes p (.cells #[.slice (some ⟨gk, 0, none⟩) t.keys.length kq, .slice (some ⟨g, 0, none⟩) ps.length cq] 91 (0, 0)) :: rowRes 84 1 (.slice (some ⟨g, 0, none⟩) ps.length cq) (ps.length) ((ps).map ptrV) :: blkRes qa (.cells #[.slice (some ⟨gka, 0, none⟩) a.keys.length kqa, .slice cpa psa.length cqa] 91 (0, 0)) :: rowRes 31 2 (.slice (some ⟨gka, 0, none⟩) a.keys.length kqa) (a.keys.length) (cellsE (a.keys)) :: rowRes 84 1 (.slice cpa psa.length cqa) (psa.length) ((psa).map ptrV) :: rowRes 84 1 (.slice cpb psb.length cqb) (psb.length) ((psb).map ptrV) :: (List.zipWith (subRes h) psa a.kids ++ (List.zipWith (subRes h) psb b.kids ++ (List.zipWith (subRes (h + 1)) pa ca ++ (List.zipWith (subRes (h + 1)) pb cb ++ (l)))))) from HS1.out.reorder (by (intro x; simp only [List.count_append, List.count_cons, List.count_nil, List.cons_append, List.nil_append, List.append_assoc]; omega)))
  clear HS1
  obtain ⟨lf1, hlf1⟩ : ∃ lf1 : List Res, lf1 = rowRes 84 1 (.slice (some ⟨g, 0, none⟩) ps.length cq) (ps.length) ((ps).map ptrV) :: blkRes qa (.cells #[.slice (some ⟨gka, 0, none⟩) a.keys.length kqa, .slice cpa psa.length cqa] 91 (0, 0)) :: rowRes 31 2 (.slice (some ⟨gka, 0, none⟩) a.keys.length kqa) (a.keys.length) (cellsE (a.keys)) :: rowRes 84 1 (.slice cpa psa.length cqa) (psa.length) ((psa).map ptrV) :: rowRes 84 1 (.slice cpb psb.length cqb) (psb.length) ((psb).map ptrV) :: (List.zipWith (subRes h) psa a.kids ++ (List.zipWith (subRes h) psb b.kids ++ (List.zipWith (subRes (h + 1)) pa ca ++ (List.zipWith (subRes (h + 1)) pb cb ++ (l))))) := ⟨_, rfl⟩
  have HS3 := Lib.hid (show Sep w (V) (rowRes 31 2 (.slice kpb b.keys.length kqb) (b.keys.length) (cellsE (b.keys)) :: blkRes qb (.cells #[.slice kpb b.keys.length kqb, .slice cpb psb.length cqb] 91 (0, 0)) :: rowRes 31 2 (.slice (some ⟨gk, 0, none⟩) t.keys.length kq) (t.keys.length) (cellsE (t.keys)) :: blkRes p (.cells #[.slice (some ⟨gk, 0, none⟩) t.keys.length kq, .slice (some ⟨g, 0, none⟩) ps.length cq] 91 (0, 0)) :: (lf1)) from by rw [hlf1]; exact HS2.out)
  have HLlf1 := Lib.hid hlf1
  clear hlf1 HS2
  have b0a : World.cell? (V.alloc (.cells #[.string e.1, .int .i64 e.2] 31)) ⟨qb, 0, none⟩ = some (.slice kpb b.keys.length kqb) := Lib.cell?_alloc_some _ b0
  have hins := ins_ent (W := V.drew) 0 #[.string e.1, .int .i64 e.2] rfl (ent_one e) (cellsE_one _) (Nat.zero_le _) (by omega) (Sep.drew (HS3.out))
  rw [ins_cells, List.take_zero, List.nil_append, List.drop_zero, show ((0 : Nat) : Int) = (0 : Int) from rfl] at hins
  have HINS := Lib.hid hins; clear hins
  have mixed : Try.prog.follows .mixedOrders = true := by kernel_rfl
  go_upto_region 4 with fail
  go_cut [] (fun wx => ∃ (p4 : Option Addr) (q4 : Nat), Sep w wx (blkRes qb (.cells #[.slice p4 (b.keys.length + 1) q4, .slice cpb psb.length cqb] 91 (0, 0)) :: rowRes 31 2 (.slice p4 (b.keys.length + 1) q4) (b.keys.length + 1) (cellsE (e :: b.keys)) :: rowRes 31 2 (.slice (some ⟨gk, 0, none⟩) t.keys.length kq) (t.keys.length) (cellsE (t.keys)) :: blkRes p (.cells #[.slice (some ⟨gk, 0, none⟩) t.keys.length kq, .slice (some ⟨g, 0, none⟩) ps.length cq] 91 (0, 0)) :: (lf1)))
  case first =>
    refine wp_region_last (S := (fun w' => w'.cell? ⟨qb, 0, none⟩ = some (.slice kpb b.keys.length kqb) ∧ w'.cell? ⟨p, 0, none⟩ = some (.slice (some ⟨gk, 0, none⟩) t.keys.length kq) ∧ w'.cell? ⟨gk, j * 2, none⟩ = some (.string e.1) ∧ w'.cell? ⟨gk, j * 2 + 1, none⟩ = some (.int .i64 e.2))) (by kernel_rfl) 17 _ rfl rfl rfl (by kernel_rfl) [16, 15, 14, 13, 12, 11, 10, 9, 8, 7, 6, 5, 4, 3, 2, 1, 0] (by kernel_rfl) (by kernel_rfl) ?_ (fun hHeld => ?_)
    · (try dsimp only); (first | go_keep | (refine ⟨?_, ?_, ?_, ?_⟩ <;> assumption))
    simp only [lull, List.setIfInBounds_toArray, List.set_cons_succ, List.set_cons_zero]
    refine wpAnyH_take (i := 0) (v := ?_) rfl (by kernel_rfl) (by kernel_rfl) (by kernel_rfl) (fun _ _ _ h => h) (Or.inl ⟨by rfl, ?_⟩) (by assumption) ?_
    rotate_left
    · (intro w hSw; (try dsimp only at hSw); go_simp; try with_reducible rfl)
    (try simp only [Act.put, List.setIfInBounds_toArray, List.set_cons_zero, List.set_cons_succ])
    refine wpAnyH_take (i := 1) (v := ?_) rfl (by kernel_rfl) (by kernel_rfl) (by kernel_rfl) (fun _ _ _ h => h) (Or.inl ⟨by rfl, ?_⟩) (by assumption) ?_
    rotate_left
    · (intro w hSw; (try dsimp only at hSw); go_simp; try with_reducible rfl)
    (try simp only [Act.put, List.setIfInBounds_toArray, List.set_cons_zero, List.set_cons_succ])
    refine wpAnyH_take (i := 2) (v := ?_) rfl (by kernel_rfl) (by kernel_rfl) (by kernel_rfl) (fun _ _ _ h => h) (Or.inl ⟨by rfl, ?_⟩) (by assumption) ?_
    rotate_left
    · (intro w hSw; (try dsimp only at hSw); go_simp; try with_reducible rfl)
    (try simp only [Act.put, List.setIfInBounds_toArray, List.set_cons_zero, List.set_cons_succ])
    refine wpAnyH_take (i := 3) (v := ?_) rfl (by kernel_rfl) (by kernel_rfl) (by kernel_rfl) (fun _ _ _ h => h) (Or.inl ⟨by rfl, ?_⟩) (by assumption) ?_
    rotate_left
    · (intro w hSw; (try dsimp only at hSw); go_simp; try with_reducible rfl)
    (try simp only [Act.put, List.setIfInBounds_toArray, List.set_cons_zero, List.set_cons_succ])
    refine wpAnyH_take (i := 4) (v := ?_) rfl (by kernel_rfl) (by kernel_rfl) (by kernel_rfl) (fun _ _ _ h => h) (Or.inl ⟨by rfl, ?_⟩) (by assumption) ?_
    rotate_left
    · (intro w hSw; (try dsimp only at hSw); go_simp; try with_reducible rfl)
    (try simp only [Act.put, List.setIfInBounds_toArray, List.set_cons_zero, List.set_cons_succ])
    refine wpAnyH_take (i := 5) (v := ?_) rfl (by kernel_rfl) (by kernel_rfl) (by kernel_rfl) (fun _ _ _ h => h) (Or.inl ⟨by rfl, ?_⟩) (by assumption) ?_
    rotate_left
    · (intro w hSw; (try dsimp only at hSw); go_simp; try with_reducible rfl)
    (try simp only [Act.put, List.setIfInBounds_toArray, List.set_cons_zero, List.set_cons_succ])
    refine wpAnyH_take (i := 6) (v := ?_) rfl (by kernel_rfl) (by kernel_rfl) (by kernel_rfl) (fun _ _ _ h => h) (Or.inl ⟨by rfl, ?_⟩) (by assumption) ?_
    rotate_left
    · (intro w hSw; (try dsimp only at hSw); go_simp; try with_reducible rfl)
    (try simp only [Act.put, List.setIfInBounds_toArray, List.set_cons_zero, List.set_cons_succ])
    refine wpAnyH_take (i := 7) (v := ?_) rfl (by kernel_rfl) (by kernel_rfl) (by kernel_rfl) (fun _ _ _ h => h) (Or.inl ⟨by rfl, ?_⟩) (by assumption) ?_
    rotate_left
    · (intro w hSw; (try dsimp only at hSw); go_simp; try with_reducible rfl)
    (try simp only [Act.put, List.setIfInBounds_toArray, List.set_cons_zero, List.set_cons_succ])
    refine wpAnyH_take (i := 8) (v := ?_) rfl (by kernel_rfl) (by kernel_rfl) (by kernel_rfl) (fun _ _ _ h => h) (Or.inl ⟨by rfl, ?_⟩) (by assumption) ?_
    rotate_left
    · (intro w hSw; (try dsimp only at hSw); go_simp; try with_reducible rfl)
    (try simp only [Act.put, List.setIfInBounds_toArray, List.set_cons_zero, List.set_cons_succ])
    refine wpAnyH_take (i := 9) (v := ?_) rfl (by kernel_rfl) (by kernel_rfl) (by kernel_rfl) (fun _ _ _ h => h) (Or.inl ⟨by rfl, ?_⟩) (by assumption) ?_
    rotate_left
    · (intro w hSw; (try dsimp only at hSw); go_simp; try with_reducible rfl)
    (try simp only [Act.put, List.setIfInBounds_toArray, List.set_cons_zero, List.set_cons_succ])
    refine wpAnyH_take (i := 10) (v := ?_) rfl (by kernel_rfl) (by kernel_rfl) (by kernel_rfl) (fun _ _ _ h => h) (Or.inl ⟨by rfl, ?_⟩) (by assumption) ?_
    rotate_left
    · (intro w hSw; (try dsimp only at hSw); go_simp; try with_reducible rfl)
    (try simp only [Act.put, List.setIfInBounds_toArray, List.set_cons_zero, List.set_cons_succ])
    refine wpAnyH_take (i := 11) (v := ?_) rfl (by kernel_rfl) (by kernel_rfl) (by kernel_rfl) (fun _ _ _ h => h) (Or.inl ⟨by rfl, ?_⟩) (by assumption) ?_
    rotate_left
    · (intro w hSw; (try dsimp only at hSw); go_simp; try with_reducible rfl)
    (try simp only [Act.put, List.setIfInBounds_toArray, List.set_cons_zero, List.set_cons_succ])
    refine wpAnyH_take (i := 12) (v := ?_) rfl (by kernel_rfl) (by kernel_rfl) (by kernel_rfl) (fun _ _ _ h => h) (Or.inl ⟨by rfl, ?_⟩) (by assumption) ?_
    rotate_left
    · (intro w hSw; (try dsimp only at hSw); go_simp; try with_reducible rfl)
    (try simp only [Act.put, List.setIfInBounds_toArray, List.set_cons_zero, List.set_cons_succ])
    refine wpAnyH_ready (rs := [13]) (by kernel_rfl) (by simp) ?_
    refine AllReadyH.cons rfl (fun K hK => ?_) ?_
    · go_simp
      refine hK.out _ _ ?_ (fun hH1 => ?_)
      · (try dsimp only); (first | go_keep | (refine ⟨?_, ?_, ?_, ?_⟩ <;> assumption))
      clear hK K hHeld
      (try simp only [Act.put, List.setIfInBounds_toArray, List.set_cons_zero, List.set_cons_succ])
      refine wpAnyH_ready (rs := [14]) (by kernel_rfl) (by simp) ?_
      refine AllReadyH.cons rfl (fun K hK => ?_) ?_
      · (go_simp; go_wp2_with ((go_at_call 46; refine (HINS.out).mono ?_; rintro r w4 ⟨p4, q4, rfl, hs4⟩; have HS4 := Lib.hid (show Sep w (w4) (rowRes 31 2 (.slice p4 (b.keys.length + 1) q4) (b.keys.length + 1) (cellsE (e :: b.keys)) :: blkRes qb (.cells #[.slice kpb b.keys.length kqb, .slice cpb psb.length cqb] 91 (0, 0)) :: rowRes 31 2 (.slice (some ⟨gk, 0, none⟩) t.keys.length kq) (t.keys.length) (cellsE (t.keys)) :: blkRes p (.cells #[.slice (some ⟨gk, 0, none⟩) t.keys.length kq, .slice (some ⟨g, 0, none⟩) ps.length cq] 91 (0, 0)) :: (lf1)) from hs4); clear HS3; have b0n : World.cell? (w4) ⟨qb, 0, none⟩ = some (.slice kpb b.keys.length kqb) := cell_of_block (HS4.out.blkOf (g := qb) (o := .cells #[.slice kpb b.keys.length kqb, .slice cpb psb.length cqb] 91 (0, 0)) (by simp)) 0 (v := .slice kpb b.keys.length kqb) rfl; have fb0 : World.frozen? (w4) ⟨qb, 0, none⟩ = false := free_of_block (HS4.out.blkOf (g := qb) (o := .cells #[.slice kpb b.keys.length kqb, .slice cpb psb.length cqb] 91 (0, 0)) (by simp)) 0; have p0n : World.cell? (w4) ⟨p, 0, none⟩ = some (.slice (some ⟨gk, 0, none⟩) t.keys.length kq) := cell_of_block (HS4.out.blkOf (g := p) (o := .cells #[.slice (some ⟨gk, 0, none⟩) t.keys.length kq, .slice (some ⟨g, 0, none⟩) ps.length cq] 91 (0, 0)) (by simp)) 0 (v := .slice (some ⟨gk, 0, none⟩) t.keys.length kq) rfl; have rKn := HS4.out.rowOf (e := 31) (size := 2) (v := .slice (some ⟨gk, 0, none⟩) t.keys.length kq) (n := t.keys.length) (xs := cellsE t.keys) (by simp); obtain ⟨_, he, d0n, d1n⟩ := keyCells rKn HKE.out; cases he; clear rKn; clear hs4)))
        refine hK.out _ _ ?_ (fun hH2 => ?_)
        · (try dsimp only); (first | go_keep | (refine ⟨?_, ?_, ?_, ?_⟩ <;> assumption))
        clear hK K hH1
        (try simp only [Act.put, List.setIfInBounds_toArray, List.set_cons_zero, List.set_cons_succ])
        refine wpAnyH_take (i := 15) (v := ?_) rfl (by kernel_rfl) (by kernel_rfl) (by kernel_rfl) (fun _ _ _ h => h) (Or.inl ⟨by rfl, ?_⟩) (by assumption) ?_
        rotate_left
        · (intro w hSw; (try dsimp only at hSw); go_simp; try with_reducible rfl)
        (try simp only [Act.put, List.setIfInBounds_toArray, List.set_cons_zero, List.set_cons_succ])
        refine wpAnyH_take (i := 16) (v := ?_) rfl (by kernel_rfl) (by kernel_rfl) (by kernel_rfl) (fun _ _ _ h => h) (Or.inl ⟨by rfl, ?_⟩) (by assumption) ?_
        rotate_left
        · (intro w hSw; (try dsimp only at hSw); go_simp; try with_reducible rfl)
        (try simp only [Act.put, List.setIfInBounds_toArray, List.set_cons_zero, List.set_cons_succ])
        refine wpAnyH_take (i := 17) (v := ?_) rfl (by kernel_rfl) (by kernel_rfl) (by kernel_rfl) (fun _ _ _ h => h) (Or.inl ⟨by rfl, ?_⟩) (by assumption) ?_
        rotate_left
        · (intro w hSw; (try dsimp only at hSw); go_simp; try with_reducible rfl)
        (try simp only [Act.put, List.setIfInBounds_toArray, List.set_cons_zero, List.set_cons_succ])
        refine wpAnyH_done (by kernel_rfl) ?_ _
        refine tail_run rfl rfl ?_
        clear hH2
        have HS5 := Lib.hid (show Sep w (World.setCell (w4) ⟨qb, 0, none⟩ (.slice p4 (b.keys.length + 1) q4)) (blkRes qb (.cells #[.slice p4 (b.keys.length + 1) q4, .slice cpb psb.length cqb] 91 (0, 0)) :: rowRes 31 2 (.slice p4 (b.keys.length + 1) q4) (b.keys.length + 1) (cellsE (e :: b.keys)) :: rowRes 31 2 (.slice (some ⟨gk, 0, none⟩) t.keys.length kq) (t.keys.length) (cellsE (t.keys)) :: blkRes p (.cells #[.slice (some ⟨gk, 0, none⟩) t.keys.length kq, .slice (some ⟨g, 0, none⟩) ps.length cq] 91 (0, 0)) :: (lf1)) from (HS4.out.up1).store 0 (.slice p4 (b.keys.length + 1) q4))
        clear HS4
        go_simp
        go_wp2_with fail
        go_meet
        exact ⟨p4, q4, HS5.out⟩
      exact AllReadyH.nil
    exact AllReadyH.nil
  case rest =>
    obtain ⟨p4, q4, hs5⟩ := hcut
    obtain ⟨V2, hV2⟩ : ∃ V2 : World, V2 = wc := ⟨_, rfl⟩
    rw [← hV2] at hs5 ⊢
    clear hV2
    have HS10 := Lib.hid hs5
    clear hs5 HS3 HINS p0 a0 b0 b0a d0 d1
    have HS11 := Lib.hid (show Sep w (V2) (blkRes qb (.cells #[.slice p4 (b.keys.length + 1) q4, .slice cpb psb.length cqb] 91 (0, 0)) :: rowRes 31 2 (.slice p4 (b.keys.length + 1) q4) (b.keys.length + 1) (cellsE (e :: b.keys)) :: rowRes 31 2 (.slice (some ⟨gk, 0, none⟩) t.keys.length kq) (t.keys.length) (cellsE (t.keys)) :: blkRes p (.cells #[.slice (some ⟨gk, 0, none⟩) t.keys.length kq, .slice (some ⟨g, 0, none⟩) ps.length cq] 91 (0, 0)) :: rowRes 84 1 (.slice (some ⟨g, 0, none⟩) ps.length cq) (ps.length) ((ps).map ptrV) :: blkRes qa (.cells #[.slice (some ⟨gka, 0, none⟩) a.keys.length kqa, .slice cpa psa.length cqa] 91 (0, 0)) :: rowRes 31 2 (.slice (some ⟨gka, 0, none⟩) a.keys.length kqa) (a.keys.length) (cellsE (a.keys)) :: rowRes 84 1 (.slice cpa psa.length cqa) (psa.length) ((psa).map ptrV) :: rowRes 84 1 (.slice cpb psb.length cqb) (psb.length) ((psb).map ptrV) :: (List.zipWith (subRes h) psa a.kids ++ (List.zipWith (subRes h) psb b.kids ++ (List.zipWith (subRes (h + 1)) pa ca ++ (List.zipWith (subRes (h + 1)) pb cb ++ (l)))))) from by have h := HS10.out; rw [HLlf1.out] at h; exact h)
    clear HS10
    have HS12 := Lib.hid (show Sep w (V2) (rowRes 31 2 (.slice (some ⟨gk, 0, none⟩) t.keys.length kq) (t.keys.length) (cellsE (t.keys)) :: blkRes p (.cells #[.slice (some ⟨gk, 0, none⟩) t.keys.length kq, .slice (some ⟨g, 0, none⟩) ps.length cq] 91 (0, 0)) :: blkRes qa (.cells #[.slice (some ⟨gka, 0, none⟩) a.keys.length kqa, .slice cpa psa.length cqa] 91 (0, 0)) :: rowRes 31 2 (.slice (some ⟨gka, 0, none⟩) a.keys.length kqa) (a.keys.length) (cellsE (a.keys)) :: blkRes qb (.cells #[.slice p4 (b.keys.length + 1) q4, .slice cpb psb.length cqb] 91 (0, 0)) :: rowRes 31 2 (.slice p4 (b.keys.length + 1) q4) (b.keys.length + 1) (cellsE (e :: b.keys)) :: rowRes 84 1 (.slice (some ⟨g, 0, none⟩) ps.length cq) (ps.length) ((ps).map ptrV) :: rowRes 84 1 (.slice cpa psa.length cqa) (psa.length) ((psa).map ptrV) :: rowRes 84 1 (.slice cpb psb.length cqb) (psb.length) ((psb).map ptrV) :: (List.zipWith (subRes h) psa a.kids ++ (List.zipWith (subRes h) psb b.kids ++ (List.zipWith (subRes (h + 1)) pa ca ++ (List.zipWith (subRes (h + 1)) pb cb ++ (l)))))) from HS11.out.reorder (by (intro x; simp only [List.count_append, List.count_cons, List.count_nil, List.cons_append, List.nil_append, List.append_assoc]; omega)))
    clear HS11
    obtain ⟨lf2, hlf2⟩ : ∃ lf2 : List Res, lf2 = blkRes qb (.cells #[.slice p4 (b.keys.length + 1) q4, .slice cpb psb.length cqb] 91 (0, 0)) :: rowRes 31 2 (.slice p4 (b.keys.length + 1) q4) (b.keys.length + 1) (cellsE (e :: b.keys)) :: rowRes 84 1 (.slice (some ⟨g, 0, none⟩) ps.length cq) (ps.length) ((ps).map ptrV) :: rowRes 84 1 (.slice cpa psa.length cqa) (psa.length) ((psa).map ptrV) :: rowRes 84 1 (.slice cpb psb.length cqb) (psb.length) ((psb).map ptrV) :: (List.zipWith (subRes h) psa a.kids ++ (List.zipWith (subRes h) psb b.kids ++ (List.zipWith (subRes (h + 1)) pa ca ++ (List.zipWith (subRes (h + 1)) pb cb ++ (l))))) := ⟨_, rfl⟩
    have HS13 := Lib.hid (show Sep w (V2) (rowRes 31 2 (.slice (some ⟨gk, 0, none⟩) t.keys.length kq) (t.keys.length) (cellsE (t.keys)) :: blkRes p (.cells #[.slice (some ⟨gk, 0, none⟩) t.keys.length kq, .slice (some ⟨g, 0, none⟩) ps.length cq] 91 (0, 0)) :: blkRes qa (.cells #[.slice (some ⟨gka, 0, none⟩) a.keys.length kqa, .slice cpa psa.length cqa] 91 (0, 0)) :: rowRes 31 2 (.slice (some ⟨gka, 0, none⟩) a.keys.length kqa) (a.keys.length) (cellsE (a.keys)) :: (lf2)) from by rw [hlf2]; exact HS12.out)
    have HLlf2 := Lib.hid hlf2
    clear hlf2 HS12
    have p0 : World.cell? (V2) ⟨p, 0, none⟩ = some (.slice (some ⟨gk, 0, none⟩) t.keys.length kq) := cell_of_block (HS13.out.blkOf (g := p) (o := .cells #[.slice (some ⟨gk, 0, none⟩) t.keys.length kq, .slice (some ⟨g, 0, none⟩) ps.length cq] 91 (0, 0)) (by simp)) 0 (v := .slice (some ⟨gk, 0, none⟩) t.keys.length kq) rfl
    have a0 : World.cell? (V2) ⟨qa, 0, none⟩ = some (.slice (some ⟨gka, 0, none⟩) a.keys.length kqa) := cell_of_block (HS13.out.blkOf (g := qa) (o := .cells #[.slice (some ⟨gka, 0, none⟩) a.keys.length kqa, .slice cpa psa.length cqa] 91 (0, 0)) (by simp)) 0 (v := .slice (some ⟨gka, 0, none⟩) a.keys.length kqa) rfl
    have rK := HS13.out.rowOf (e := 31) (size := 2) (v := .slice (some ⟨gk, 0, none⟩) t.keys.length kq) (n := t.keys.length) (xs := cellsE t.keys) (by simp)
    have rA := HS13.out.rowOf (e := 31) (size := 2) (v := .slice (some ⟨gka, 0, none⟩) a.keys.length kqa) (n := a.keys.length) (xs := cellsE a.keys) (by simp)
    obtain ⟨d0, d1, e0, e1⟩ : World.cell? V2 ⟨gk, j * 2, none⟩ = some (.string e.1) ∧ World.cell? V2 ⟨gk, j * 2 + 1, none⟩ = some (.int .i64 e.2) ∧ World.cell? V2 ⟨gka, k * 2, none⟩ = some (.string f.1) ∧ World.cell? V2 ⟨gka, k * 2 + 1, none⟩ = some (.int .i64 f.2) := by
      obtain ⟨_, he, h1, h2⟩ := keyCells rK HKE.out
      cases he
      obtain ⟨_, he, h3, h4⟩ := keyCells rA HKE2.out
      cases he
      exact ⟨h1, h2, h3, h4⟩
    have HRW := Lib.hid (HS13.out)
    have fz0 := (HRW.out.rowCell (cellsE_get HKE.out).1).2
    have fz1 := (HRW.out.rowCell (cellsE_get HKE.out).2).2
    have hst := (HRW.out.rowStore (j * 2) (.string f.1)).rowStore (j * 2 + 1) (.int .i64 f.2)
    rw [cellsE_set] at hst
    have HST := Lib.hid hst
    have hkl : k < a.keys.length := by have := HKK.out; omega
    clear hst rK rA HRW
    go_upto_region 5 with fail
    go_cut [] (fun wx => Sep w wx (rowRes 31 2 (.slice (some ⟨gk, 0, none⟩) t.keys.length kq) (t.keys.length) (cellsE (t.keys.set j f)) :: blkRes p (.cells #[.slice (some ⟨gk, 0, none⟩) t.keys.length kq, .slice (some ⟨g, 0, none⟩) ps.length cq] 91 (0, 0)) :: blkRes qa (.cells #[.slice (some ⟨gka, 0, none⟩) a.keys.length kqa, .slice cpa psa.length cqa] 91 (0, 0)) :: rowRes 31 2 (.slice (some ⟨gka, 0, none⟩) a.keys.length kqa) (a.keys.length) (cellsE (a.keys)) :: (lf2)))
    case first =>
      go_region
      all_goals
        go_wp2_with fail
        go_meet
        exact HST.out.drew
    case rest =>
      obtain ⟨V3, hV2⟩ : ∃ V2 : World, V2 = wc := ⟨_, rfl⟩
      rw [← hV2] at hcut ⊢
      clear hV2
      have HS20 := Lib.hid hcut
      clear hcut HS13 HST p0 a0 d0 d1 e0 e1 fz0 fz1
      have a0 : World.cell? (V3) ⟨qa, 0, none⟩ = some (.slice (some ⟨gka, 0, none⟩) a.keys.length kqa) := cell_of_block (HS20.out.blkOf (g := qa) (o := .cells #[.slice (some ⟨gka, 0, none⟩) a.keys.length kqa, .slice cpa psa.length cqa] 91 (0, 0)) (by simp)) 0 (v := .slice (some ⟨gka, 0, none⟩) a.keys.length kqa) rfl
      have fa0 : World.frozen? (V3) ⟨qa, 0, none⟩ = false := free_of_block (HS20.out.blkOf (g := qa) (o := .cells #[.slice (some ⟨gka, 0, none⟩) a.keys.length kqa, .slice cpa psa.length cqa] 91 (0, 0)) (by simp)) 0
      have HS21 := Lib.hid (show Sep w (World.setCell (V3) ⟨qa, 0, none⟩ (.slice (some ⟨gka, 0, none⟩) k kqa)) (blkRes qa (.cells #[.slice (some ⟨gka, 0, none⟩) k kqa, .slice cpa psa.length cqa] 91 (0, 0)) :: rowRes 31 2 (.slice (some ⟨gk, 0, none⟩) t.keys.length kq) (t.keys.length) (cellsE (t.keys.set j f)) :: blkRes p (.cells #[.slice (some ⟨gk, 0, none⟩) t.keys.length kq, .slice (some ⟨g, 0, none⟩) ps.length cq] 91 (0, 0)) :: rowRes 31 2 (.slice (some ⟨gka, 0, none⟩) a.keys.length kqa) (a.keys.length) (cellsE (a.keys)) :: (lf2)) from (HS20.out.up2).store 0 (.slice (some ⟨gka, 0, none⟩) k kqa))
      clear HS20
      have HS22 := Lib.hid (show Sep w (World.setCell (V3) ⟨qa, 0, none⟩ (.slice (some ⟨gka, 0, none⟩) k kqa)) (rowRes 31 2 (.slice (some ⟨gka, 0, none⟩) k kqa) (k) (cellsE (a.keys.take k)) :: blkRes qa (.cells #[.slice (some ⟨gka, 0, none⟩) k kqa, .slice cpa psa.length cqa] 91 (0, 0)) :: rowRes 31 2 (.slice (some ⟨gk, 0, none⟩) t.keys.length kq) (t.keys.length) (cellsE (t.keys.set j f)) :: blkRes p (.cells #[.slice (some ⟨gk, 0, none⟩) t.keys.length kq, .slice (some ⟨g, 0, none⟩) ps.length cq] 91 (0, 0)) :: (lf2)) from (by have h6 := ((HS21.out.up3)).rowCut k (by have := HKK.out; omega); rw [cellsE_take] at h6; exact h6))
      clear HS21
      have HS23 := Lib.hid (show Sep w (World.setCell (V3) ⟨qa, 0, none⟩ (.slice (some ⟨gka, 0, none⟩) k kqa)) (rowRes 31 2 (.slice (some ⟨gka, 0, none⟩) k kqa) (k) (cellsE (a.keys.take k)) :: blkRes qa (.cells #[.slice (some ⟨gka, 0, none⟩) k kqa, .slice cpa psa.length cqa] 91 (0, 0)) :: rowRes 31 2 (.slice (some ⟨gk, 0, none⟩) t.keys.length kq) (t.keys.length) (cellsE (t.keys.set j f)) :: blkRes p (.cells #[.slice (some ⟨gk, 0, none⟩) t.keys.length kq, .slice (some ⟨g, 0, none⟩) ps.length cq] 91 (0, 0)) :: blkRes qb (.cells #[.slice p4 (b.keys.length + 1) q4, .slice cpb psb.length cqb] 91 (0, 0)) :: rowRes 31 2 (.slice p4 (b.keys.length + 1) q4) (b.keys.length + 1) (cellsE (e :: b.keys)) :: rowRes 84 1 (.slice (some ⟨g, 0, none⟩) ps.length cq) (ps.length) ((ps).map ptrV) :: rowRes 84 1 (.slice cpa psa.length cqa) (psa.length) ((psa).map ptrV) :: rowRes 84 1 (.slice cpb psb.length cqb) (psb.length) ((psb).map ptrV) :: (List.zipWith (subRes h) psa a.kids ++ (List.zipWith (subRes h) psb b.kids ++ (List.zipWith (subRes (h + 1)) pa ca ++ (List.zipWith (subRes (h + 1)) pb cb ++ (l)))))) from by have h := HS22.out; rw [HLlf2.out] at h; exact h)
      clear HS22
      have a1 : World.cell? (World.setCell (V3) ⟨qa, 0, none⟩ (.slice (some ⟨gka, 0, none⟩) k kqa)) ⟨qa, 1, none⟩ = some (.slice cpa psa.length cqa) := cell_of_block (HS23.out.blkOf (g := qa) (o := .cells #[.slice (some ⟨gka, 0, none⟩) k kqa, .slice cpa psa.length cqa] 91 (0, 0)) (by simp)) 1 (v := .slice cpa psa.length cqa) rfl
      by_cases hz : psa.length = 0
      · have hz2 := hz
        rw [hz2] at a1
        have HZ := Lib.hid hz
        clear hz hz2 hks
        go_wp2_with fail
        go_end0
        refine ⟨rfl, ?_⟩
        refine Sep.shutTwo (kv := .slice (some ⟨gk, 0, none⟩) t.keys.length kq) (cv := .slice (some ⟨g, 0, none⟩) ps.length cq) (kva := .slice (some ⟨gka, 0, none⟩) k kqa) (cva := .slice cpa psa.length cqa) (kvb := .slice p4 (b.keys.length + 1) q4) (cvb := .slice cpb psb.length cqb) (n := t.keys.length) (m := ps.length) (na := k) (ma := psa.length) (nb := b.keys.length + 1) (mb := psb.length) (a := (.nd (a.keys.take k) (a.kids.take (k + 1)) : T)) (b := (.nd (e :: b.keys) (a.kids.drop (k + 1) ++ b.kids) : T)) (ps := ps) (pa := pa) (pb := pb) (psa := psa) (psb := psb) (qa := qa) (qb := qb) ?_ rfl HPS.out HPA.out HPB.out ?_ ?_ ?_ ?_ ?_ ?_ (HS23.out.reorder ?_)
        · rw [List.length_set]
        · rw [T.keys_nd, List.length_take]; have := HKK.out; omega
        · rfl
        · rw [T.kids_nd, List.length_take]; have := HPLA.out; have := HZ.out; omega
        · rw [T.keys_nd, List.length_cons]
        · rfl
        · rw [T.kids_nd, List.length_append, List.length_drop]; have := HPLB.out; have := HPLA.out; have := HZ.out; omega
        · simp only [T.kids_nd, T.keys_nd]
          rw [show psa = [] from List.eq_nil_of_length_eq_zero HZ.out, show a.kids = [] from List.eq_nil_of_length_eq_zero (HPLA.out.symm.trans HZ.out)]
          simp only [List.take_nil, List.drop_nil, List.nil_append, List.zipWith_nil_left]
          (intro x; simp only [List.count_append, List.count_cons, List.count_nil, List.cons_append, List.nil_append, List.append_assoc]; omega)
      · have hpk : psa.length = k + 2 := by have := HKK.out; have := hks.resolve_left hz; omega
        have hpz : 0 < psa.length := by omega
        obtain ⟨qz, hqz⟩ : ∃ qz, psa[k + 1]? = some qz := ⟨_, List.getElem?_eq_getElem (by omega)⟩
        have rC := HS23.out.rowOf (e := 84) (size := 1) (v := .slice cpa psa.length cqa) (n := psa.length) (xs := psa.map ptrV) (by simp)
        obtain ⟨gca, rfl, x1⟩ := kid_cell rC hqz
        have hcapc : psa.length ≤ cqa := row_cap rC
        have hcapd : k + 1 ≤ cqa := by omega
        have hcape : k + 1 < psa.length := by omega
        have hcapf : k + 1 ≤ psa.length := by omega
        have HPK := Lib.hid hpk
        have HQZ := Lib.hid hqz
        clear hpk hqz rC hks hz
        have HS34 := Lib.hid (show Sep w (World.setCell (V3) ⟨qa, 0, none⟩ (.slice (some ⟨gka, 0, none⟩) k kqa)) (rowRes 84 1 (.slice cpb psb.length cqb) (psb.length) ((psb).map ptrV) :: blkRes qb (.cells #[.slice p4 (b.keys.length + 1) q4, .slice cpb psb.length cqb] 91 (0, 0)) :: blkRes qa (.cells #[.slice (some ⟨gka, 0, none⟩) k kqa, .slice (some ⟨gca, 0, none⟩) psa.length cqa] 91 (0, 0)) :: rowRes 84 1 (.slice (some ⟨gca, 0, none⟩) psa.length cqa) (psa.length) ((psa).map ptrV) :: rowRes 31 2 (.slice (some ⟨gka, 0, none⟩) k kqa) (k) (cellsE (a.keys.take k)) :: rowRes 31 2 (.slice (some ⟨gk, 0, none⟩) t.keys.length kq) (t.keys.length) (cellsE (t.keys.set j f)) :: blkRes p (.cells #[.slice (some ⟨gk, 0, none⟩) t.keys.length kq, .slice (some ⟨g, 0, none⟩) ps.length cq] 91 (0, 0)) :: rowRes 31 2 (.slice p4 (b.keys.length + 1) q4) (b.keys.length + 1) (cellsE (e :: b.keys)) :: rowRes 84 1 (.slice (some ⟨g, 0, none⟩) ps.length cq) (ps.length) ((ps).map ptrV) :: (List.zipWith (subRes h) psa a.kids ++ (List.zipWith (subRes h) psb b.kids ++ (List.zipWith (subRes (h + 1)) pa ca ++ (List.zipWith (subRes (h + 1)) pb cb ++ (l)))))) from HS23.out.reorder (by (intro x; simp only [List.count_append, List.count_cons, List.count_nil, List.cons_append, List.nil_append, List.append_assoc]; omega)))
        clear HS23
        obtain ⟨lf3, hlf3⟩ : ∃ lf3 : List Res, lf3 = rowRes 31 2 (.slice (some ⟨gka, 0, none⟩) k kqa) (k) (cellsE (a.keys.take k)) :: rowRes 31 2 (.slice (some ⟨gk, 0, none⟩) t.keys.length kq) (t.keys.length) (cellsE (t.keys.set j f)) :: blkRes p (.cells #[.slice (some ⟨gk, 0, none⟩) t.keys.length kq, .slice (some ⟨g, 0, none⟩) ps.length cq] 91 (0, 0)) :: rowRes 31 2 (.slice p4 (b.keys.length + 1) q4) (b.keys.length + 1) (cellsE (e :: b.keys)) :: rowRes 84 1 (.slice (some ⟨g, 0, none⟩) ps.length cq) (ps.length) ((ps).map ptrV) :: (List.zipWith (subRes h) psa a.kids ++ (List.zipWith (subRes h) psb b.kids ++ (List.zipWith (subRes (h + 1)) pa ca ++ (List.zipWith (subRes (h + 1)) pb cb ++ (l))))) := ⟨_, rfl⟩
        have HS35 := Lib.hid (show Sep w (World.setCell (V3) ⟨qa, 0, none⟩ (.slice (some ⟨gka, 0, none⟩) k kqa)) (rowRes 84 1 (.slice cpb psb.length cqb) (psb.length) ((psb).map ptrV) :: blkRes qb (.cells #[.slice p4 (b.keys.length + 1) q4, .slice cpb psb.length cqb] 91 (0, 0)) :: blkRes qa (.cells #[.slice (some ⟨gka, 0, none⟩) k kqa, .slice (some ⟨gca, 0, none⟩) psa.length cqa] 91 (0, 0)) :: rowRes 84 1 (.slice (some ⟨gca, 0, none⟩) psa.length cqa) (psa.length) ((psa).map ptrV) :: (lf3)) from by rw [hlf3]; exact HS34.out)
        have HLlf3 := Lib.hid hlf3
        clear hlf3 HS34
        have b1 : World.cell? (World.setCell (V3) ⟨qa, 0, none⟩ (.slice (some ⟨gka, 0, none⟩) k kqa)) ⟨qb, 1, none⟩ = some (.slice cpb psb.length cqb) := cell_of_block (HS35.out.blkOf (g := qb) (o := .cells #[.slice p4 (b.keys.length + 1) q4, .slice cpb psb.length cqb] 91 (0, 0)) (by simp)) 1 (v := .slice cpb psb.length cqb) rfl
        go_upto_region 8 with fail
        generalize hV : World.setCell (V3) ⟨qa, 0, none⟩ (.slice (some ⟨gka, 0, none⟩) k kqa) = V4 at HS35 a1 b1 x1 ⊢
        clear hV
        have b1a : World.cell? (V4.alloc (.cells #[.pointer (some ⟨qz, 0, none⟩)] 84)) ⟨qb, 1, none⟩ = some (.slice cpb psb.length cqb) := Lib.cell?_alloc_some _ b1
        have hv1 : IntKind.i64.wrap ((k : Int) + 1) = (k : Int) + 1 := IntWalk.i64_in _ (by omega)
        have hv2 : (0 : Int) ≤ (k : Int) + 1 := by omega
        have hv3 : ((k : Int) + 1).toNat = k + 1 := by omega
        have hv4 : (k : Int) + 1 < (psa.length : Int) := by omega
        have hins := ins_ptr (W := V4.drew) 0 #[.pointer (some ⟨qz, 0, none⟩)] rfl (ptr_one qz) (ptrs_one _) (Nat.zero_le _) (by omega) (Sep.drew (HS35.out))
        rw [ins_ptrs, List.take_zero, List.nil_append, List.drop_zero, show ((0 : Nat) : Int) = (0 : Int) from rfl] at hins
        have HINS := Lib.hid hins; clear hins
        go_cut [] (fun wx => ∃ (p8 : Option Addr) (q8 : Nat), Sep w wx (blkRes qb (.cells #[.slice p4 (b.keys.length + 1) q4, .slice p8 (psb.length + 1) q8] 91 (0, 0)) :: rowRes 84 1 (.slice p8 (psb.length + 1) q8) (psb.length + 1) ((qz :: psb).map ptrV) :: blkRes qa (.cells #[.slice (some ⟨gka, 0, none⟩) k kqa, .slice (some ⟨gca, 0, none⟩) psa.length cqa] 91 (0, 0)) :: rowRes 84 1 (.slice (some ⟨gca, 0, none⟩) psa.length cqa) (psa.length) ((psa).map ptrV) :: (lf3)))
        case first =>
          refine wp_region_last (S := (fun w' => w'.cell? ⟨qb, 1, none⟩ = some (.slice cpb psb.length cqb) ∧ w'.cell? ⟨qa, 1, none⟩ = some (.slice (some ⟨gca, 0, none⟩) psa.length cqa) ∧ w'.cell? ⟨gca, k + 1, none⟩ = some (.pointer (some ⟨qz, 0, none⟩)))) (by kernel_rfl) 17 _ rfl rfl rfl (by kernel_rfl) [16, 15, 14, 13, 12, 11, 10, 9, 8, 7, 6, 5, 4, 3, 2, 1, 0] (by kernel_rfl) (by kernel_rfl) ?_ (fun hHeld => ?_)
          · (try dsimp only); (first | go_keep | (refine ⟨?_, ?_, ?_⟩ <;> assumption))
          simp only [lull, List.setIfInBounds_toArray, List.set_cons_succ, List.set_cons_zero]
          refine wpAnyH_take (i := 0) (v := ?_) rfl (by kernel_rfl) (by kernel_rfl) (by kernel_rfl) (fun _ _ _ h => h) (Or.inl ⟨by rfl, ?_⟩) (by assumption) ?_
          rotate_left
          · (intro w hSw; (try dsimp only at hSw); go_simp; try with_reducible rfl)
          (try simp only [Act.put, List.setIfInBounds_toArray, List.set_cons_zero, List.set_cons_succ])
          refine wpAnyH_take (i := 1) (v := ?_) rfl (by kernel_rfl) (by kernel_rfl) (by kernel_rfl) (fun _ _ _ h => h) (Or.inl ⟨by rfl, ?_⟩) (by assumption) ?_
          rotate_left
          · (intro w hSw; (try dsimp only at hSw); go_simp; try with_reducible rfl)
          (try simp only [Act.put, List.setIfInBounds_toArray, List.set_cons_zero, List.set_cons_succ])
          refine wpAnyH_take (i := 2) (v := ?_) rfl (by kernel_rfl) (by kernel_rfl) (by kernel_rfl) (fun _ _ _ h => h) (Or.inl ⟨by rfl, ?_⟩) (by assumption) ?_
          rotate_left
          · (intro w hSw; (try dsimp only at hSw); go_simp; try with_reducible rfl)
          (try simp only [Act.put, List.setIfInBounds_toArray, List.set_cons_zero, List.set_cons_succ])
          refine wpAnyH_take (i := 3) (v := ?_) rfl (by kernel_rfl) (by kernel_rfl) (by kernel_rfl) (fun _ _ _ h => h) (Or.inl ⟨by rfl, ?_⟩) (by assumption) ?_
          rotate_left
          · (intro w hSw; (try dsimp only at hSw); go_simp; try with_reducible rfl)
          (try simp only [Act.put, List.setIfInBounds_toArray, List.set_cons_zero, List.set_cons_succ])
          refine wpAnyH_take (i := 4) (v := ?_) rfl (by kernel_rfl) (by kernel_rfl) (by kernel_rfl) (fun _ _ _ h => h) (Or.inl ⟨by rfl, ?_⟩) (by assumption) ?_
          rotate_left
          · (intro w hSw; (try dsimp only at hSw); go_simp; try with_reducible rfl)
          (try simp only [Act.put, List.setIfInBounds_toArray, List.set_cons_zero, List.set_cons_succ])
          refine wpAnyH_take (i := 5) (v := ?_) rfl (by kernel_rfl) (by kernel_rfl) (by kernel_rfl) (fun _ _ _ h => h) (Or.inl ⟨by rfl, ?_⟩) (by assumption) ?_
          rotate_left
          · (intro w hSw; (try dsimp only at hSw); go_simp; try with_reducible rfl)
          (try simp only [Act.put, List.setIfInBounds_toArray, List.set_cons_zero, List.set_cons_succ])
          refine wpAnyH_take (i := 6) (v := ?_) rfl (by kernel_rfl) (by kernel_rfl) (by kernel_rfl) (fun _ _ _ h => h) (Or.inl ⟨by rfl, ?_⟩) (by assumption) ?_
          rotate_left
          · (intro w hSw; (try dsimp only at hSw); go_simp; try with_reducible rfl)
          (try simp only [Act.put, List.setIfInBounds_toArray, List.set_cons_zero, List.set_cons_succ])
          refine wpAnyH_take (i := 7) (v := ?_) rfl (by kernel_rfl) (by kernel_rfl) (by kernel_rfl) (fun _ _ _ h => h) (Or.inl ⟨by rfl, ?_⟩) (by assumption) ?_
          rotate_left
          · (intro w hSw; (try dsimp only at hSw); go_simp; try with_reducible rfl)
          (try simp only [Act.put, List.setIfInBounds_toArray, List.set_cons_zero, List.set_cons_succ])
          refine wpAnyH_take (i := 8) (v := ?_) rfl (by kernel_rfl) (by kernel_rfl) (by kernel_rfl) (fun _ _ _ h => h) (Or.inl ⟨by rfl, ?_⟩) (by assumption) ?_
          rotate_left
          · (intro w hSw; (try dsimp only at hSw); go_simp; try with_reducible rfl)
          (try simp only [Act.put, List.setIfInBounds_toArray, List.set_cons_zero, List.set_cons_succ])
          refine wpAnyH_take (i := 9) (v := ?_) rfl (by kernel_rfl) (by kernel_rfl) (by kernel_rfl) (fun _ _ _ h => h) (Or.inl ⟨by rfl, ?_⟩) (by assumption) ?_
          rotate_left
          · (intro w hSw; (try dsimp only at hSw); go_simp; try with_reducible rfl)
          (try simp only [Act.put, List.setIfInBounds_toArray, List.set_cons_zero, List.set_cons_succ])
          refine wpAnyH_take (i := 10) (v := ?_) rfl (by kernel_rfl) (by kernel_rfl) (by kernel_rfl) (fun _ _ _ h => h) (Or.inl ⟨by rfl, ?_⟩) (by assumption) ?_
          rotate_left
          · (intro w hSw; (try dsimp only at hSw); go_simp; try with_reducible rfl)
          (try simp only [Act.put, List.setIfInBounds_toArray, List.set_cons_zero, List.set_cons_succ])
          refine wpAnyH_take (i := 11) (v := ?_) rfl (by kernel_rfl) (by kernel_rfl) (by kernel_rfl) (fun _ _ _ h => h) (Or.inl ⟨by rfl, ?_⟩) (by assumption) ?_
          rotate_left
          · (intro w hSw; (try dsimp only at hSw); go_simp; try with_reducible rfl)
          (try simp only [Act.put, List.setIfInBounds_toArray, List.set_cons_zero, List.set_cons_succ])
          refine wpAnyH_take (i := 12) (v := ?_) rfl (by kernel_rfl) (by kernel_rfl) (by kernel_rfl) (fun _ _ _ h => h) (Or.inl ⟨by rfl, ?_⟩) (by assumption) ?_
          rotate_left
          · (intro w hSw; (try dsimp only at hSw); go_simp; try with_reducible rfl)
          (try simp only [Act.put, List.setIfInBounds_toArray, List.set_cons_zero, List.set_cons_succ])
          refine wpAnyH_ready (rs := [13]) (by kernel_rfl) (by simp) ?_
          refine AllReadyH.cons rfl (fun K hK => ?_) ?_
          · go_simp
            refine hK.out _ _ ?_ (fun hH1 => ?_)
            · (try dsimp only); (first | go_keep | (refine ⟨?_, ?_, ?_⟩ <;> assumption))
            clear hK K hHeld
            (try simp only [Act.put, List.setIfInBounds_toArray, List.set_cons_zero, List.set_cons_succ])
            refine wpAnyH_ready (rs := [14]) (by kernel_rfl) (by simp) ?_
            refine AllReadyH.cons rfl (fun K hK => ?_) ?_
            · (go_simp; go_wp2_with ((go_at_call 49; refine (HINS.out).mono ?_; rintro r w8 ⟨p8, q8, rfl, hs8⟩; have HS36 := Lib.hid (show Sep w (w8) (rowRes 84 1 (.slice p8 (psb.length + 1) q8) (psb.length + 1) ((qz :: psb).map ptrV) :: blkRes qb (.cells #[.slice p4 (b.keys.length + 1) q4, .slice cpb psb.length cqb] 91 (0, 0)) :: blkRes qa (.cells #[.slice (some ⟨gka, 0, none⟩) k kqa, .slice (some ⟨gca, 0, none⟩) psa.length cqa] 91 (0, 0)) :: rowRes 84 1 (.slice (some ⟨gca, 0, none⟩) psa.length cqa) (psa.length) ((psa).map ptrV) :: (lf3)) from hs8); clear HS35; have b1n : World.cell? (w8) ⟨qb, 1, none⟩ = some (.slice cpb psb.length cqb) := cell_of_block (HS36.out.blkOf (g := qb) (o := .cells #[.slice p4 (b.keys.length + 1) q4, .slice cpb psb.length cqb] 91 (0, 0)) (by simp)) 1 (v := .slice cpb psb.length cqb) rfl; have fb1 : World.frozen? (w8) ⟨qb, 1, none⟩ = false := free_of_block (HS36.out.blkOf (g := qb) (o := .cells #[.slice p4 (b.keys.length + 1) q4, .slice cpb psb.length cqb] 91 (0, 0)) (by simp)) 1; have a1n : World.cell? (w8) ⟨qa, 1, none⟩ = some (.slice (some ⟨gca, 0, none⟩) psa.length cqa) := cell_of_block (HS36.out.blkOf (g := qa) (o := .cells #[.slice (some ⟨gka, 0, none⟩) k kqa, .slice (some ⟨gca, 0, none⟩) psa.length cqa] 91 (0, 0)) (by simp)) 1 (v := .slice (some ⟨gca, 0, none⟩) psa.length cqa) rfl; have rCn := HS36.out.rowOf (e := 84) (size := 1) (v := .slice (some ⟨gca, 0, none⟩) psa.length cqa) (n := psa.length) (xs := psa.map ptrV) (by simp); obtain ⟨_, he, x1n⟩ := kid_cell rCn HQZ.out; cases he; clear rCn; clear hs8)))
              refine hK.out _ _ ?_ (fun hH2 => ?_)
              · (try dsimp only); (first | go_keep | (refine ⟨?_, ?_, ?_⟩ <;> assumption))
              clear hK K hH1
              (try simp only [Act.put, List.setIfInBounds_toArray, List.set_cons_zero, List.set_cons_succ])
              refine wpAnyH_take (i := 15) (v := ?_) rfl (by kernel_rfl) (by kernel_rfl) (by kernel_rfl) (fun _ _ _ h => h) (Or.inl ⟨by rfl, ?_⟩) (by assumption) ?_
              rotate_left
              · (intro w hSw; (try dsimp only at hSw); go_simp; try with_reducible rfl)
              (try simp only [Act.put, List.setIfInBounds_toArray, List.set_cons_zero, List.set_cons_succ])
              refine wpAnyH_take (i := 16) (v := ?_) rfl (by kernel_rfl) (by kernel_rfl) (by kernel_rfl) (fun _ _ _ h => h) (Or.inl ⟨by rfl, ?_⟩) (by assumption) ?_
              rotate_left
              · (intro w hSw; (try dsimp only at hSw); go_simp; try with_reducible rfl)
              (try simp only [Act.put, List.setIfInBounds_toArray, List.set_cons_zero, List.set_cons_succ])
              refine wpAnyH_take (i := 17) (v := ?_) rfl (by kernel_rfl) (by kernel_rfl) (by kernel_rfl) (fun _ _ _ h => h) (Or.inl ⟨by rfl, ?_⟩) (by assumption) ?_
              rotate_left
              · (intro w hSw; (try dsimp only at hSw); go_simp; try with_reducible rfl)
              (try simp only [Act.put, List.setIfInBounds_toArray, List.set_cons_zero, List.set_cons_succ])
              refine wpAnyH_done (by kernel_rfl) ?_ _
              refine tail_run rfl rfl ?_
              clear hH2
              have HS37 := Lib.hid (show Sep w (World.setCell (w8) ⟨qb, 1, none⟩ (.slice p8 (psb.length + 1) q8)) (blkRes qb (.cells #[.slice p4 (b.keys.length + 1) q4, .slice p8 (psb.length + 1) q8] 91 (0, 0)) :: rowRes 84 1 (.slice p8 (psb.length + 1) q8) (psb.length + 1) ((qz :: psb).map ptrV) :: blkRes qa (.cells #[.slice (some ⟨gka, 0, none⟩) k kqa, .slice (some ⟨gca, 0, none⟩) psa.length cqa] 91 (0, 0)) :: rowRes 84 1 (.slice (some ⟨gca, 0, none⟩) psa.length cqa) (psa.length) ((psa).map ptrV) :: (lf3)) from (HS36.out.up1).store 1 (.slice p8 (psb.length + 1) q8))
              clear HS36
              go_simp
              go_wp2_with fail
              go_meet
              exact ⟨p8, q8, HS37.out⟩
            exact AllReadyH.nil
          exact AllReadyH.nil
        case rest =>
          obtain ⟨p8, q8, hs9⟩ := hcut
          obtain ⟨V5, hV2⟩ : ∃ V2 : World, V2 = wc := ⟨_, rfl⟩
          rw [← hV2] at hs9 ⊢
          clear hV2
          have HS40 := Lib.hid hs9
          clear hs9 HS35 HINS a1 b1 b1a x1
          have a1 : World.cell? (V5) ⟨qa, 1, none⟩ = some (.slice (some ⟨gca, 0, none⟩) psa.length cqa) := cell_of_block (HS40.out.blkOf (g := qa) (o := .cells #[.slice (some ⟨gka, 0, none⟩) k kqa, .slice (some ⟨gca, 0, none⟩) psa.length cqa] 91 (0, 0)) (by simp)) 1 (v := .slice (some ⟨gca, 0, none⟩) psa.length cqa) rfl
          have fa1 : World.frozen? (V5) ⟨qa, 1, none⟩ = false := free_of_block (HS40.out.blkOf (g := qa) (o := .cells #[.slice (some ⟨gka, 0, none⟩) k kqa, .slice (some ⟨gca, 0, none⟩) psa.length cqa] 91 (0, 0)) (by simp)) 1
          have HS41 := Lib.hid (show Sep w (World.setCell (V5) ⟨qa, 1, none⟩ (.slice (some ⟨gca, 0, none⟩) (k + 1) cqa)) (blkRes qa (.cells #[.slice (some ⟨gka, 0, none⟩) k kqa, .slice (some ⟨gca, 0, none⟩) (k + 1) cqa] 91 (0, 0)) :: blkRes qb (.cells #[.slice p4 (b.keys.length + 1) q4, .slice p8 (psb.length + 1) q8] 91 (0, 0)) :: rowRes 84 1 (.slice p8 (psb.length + 1) q8) (psb.length + 1) ((qz :: psb).map ptrV) :: rowRes 84 1 (.slice (some ⟨gca, 0, none⟩) psa.length cqa) (psa.length) ((psa).map ptrV) :: (lf3)) from (HS40.out.up2).store 1 (.slice (some ⟨gca, 0, none⟩) (k + 1) cqa))
          clear HS40
          have HS42 := Lib.hid (show Sep w (World.setCell (V5) ⟨qa, 1, none⟩ (.slice (some ⟨gca, 0, none⟩) (k + 1) cqa)) (rowRes 84 1 (.slice (some ⟨gca, 0, none⟩) (k + 1) cqa) (k + 1) ((psa.take (k + 1)).map ptrV) :: blkRes qa (.cells #[.slice (some ⟨gka, 0, none⟩) k kqa, .slice (some ⟨gca, 0, none⟩) (k + 1) cqa] 91 (0, 0)) :: blkRes qb (.cells #[.slice p4 (b.keys.length + 1) q4, .slice p8 (psb.length + 1) q8] 91 (0, 0)) :: rowRes 84 1 (.slice p8 (psb.length + 1) q8) (psb.length + 1) ((qz :: psb).map ptrV) :: (lf3)) from (by have h6 := ((HS41.out.up3)).rowCut (k + 1) hcapf; rw [Nat.mul_one, ← List.map_take] at h6; exact h6))
          clear HS41
          have HS43 := Lib.hid (show Sep w (World.setCell (V5) ⟨qa, 1, none⟩ (.slice (some ⟨gca, 0, none⟩) (k + 1) cqa)) (rowRes 84 1 (.slice (some ⟨gca, 0, none⟩) (k + 1) cqa) (k + 1) ((psa.take (k + 1)).map ptrV) :: blkRes qa (.cells #[.slice (some ⟨gka, 0, none⟩) k kqa, .slice (some ⟨gca, 0, none⟩) (k + 1) cqa] 91 (0, 0)) :: blkRes qb (.cells #[.slice p4 (b.keys.length + 1) q4, .slice p8 (psb.length + 1) q8] 91 (0, 0)) :: rowRes 84 1 (.slice p8 (psb.length + 1) q8) (psb.length + 1) ((qz :: psb).map ptrV) :: rowRes 31 2 (.slice (some ⟨gka, 0, none⟩) k kqa) (k) (cellsE (a.keys.take k)) :: rowRes 31 2 (.slice (some ⟨gk, 0, none⟩) t.keys.length kq) (t.keys.length) (cellsE (t.keys.set j f)) :: blkRes p (.cells #[.slice (some ⟨gk, 0, none⟩) t.keys.length kq, .slice (some ⟨g, 0, none⟩) ps.length cq] 91 (0, 0)) :: rowRes 31 2 (.slice p4 (b.keys.length + 1) q4) (b.keys.length + 1) (cellsE (e :: b.keys)) :: rowRes 84 1 (.slice (some ⟨g, 0, none⟩) ps.length cq) (ps.length) ((ps).map ptrV) :: (List.zipWith (subRes h) psa a.kids ++ (List.zipWith (subRes h) psb b.kids ++ (List.zipWith (subRes (h + 1)) pa ca ++ (List.zipWith (subRes (h + 1)) pb cb ++ (l)))))) from by have h := HS42.out; rw [HLlf3.out] at h; exact h)
          clear HS42
          go_wp2_with fail
          go_end0
          refine ⟨rfl, ?_⟩
          have hdr : psa.drop (k + 1) = [qz] := by
            have h1 := List.drop_eq_getElem_cons (i := k + 1) (l := psa) (by omega)
            rw [h1, List.drop_of_length_le (by have := HPK.out; omega)]
            have h2 := HQZ.out
            rw [List.getElem?_eq_getElem (by omega)] at h2
            cases h2; rfl
          refine Sep.shutTwo (kv := .slice (some ⟨gk, 0, none⟩) t.keys.length kq) (cv := .slice (some ⟨g, 0, none⟩) ps.length cq) (kva := .slice (some ⟨gka, 0, none⟩) k kqa) (cva := .slice (some ⟨gca, 0, none⟩) (k + 1) cqa) (kvb := .slice p4 (b.keys.length + 1) q4) (cvb := .slice p8 (psb.length + 1) q8) (n := t.keys.length) (m := ps.length) (na := k) (ma := k + 1) (nb := b.keys.length + 1) (mb := psb.length + 1) (a := (.nd (a.keys.take k) (a.kids.take (k + 1)) : T)) (b := (.nd (e :: b.keys) (a.kids.drop (k + 1) ++ b.kids) : T)) (ps := ps) (pa := pa) (pb := pb) (psa := psa.take (k + 1)) (psb := qz :: psb) (qa := qa) (qb := qb) ?_ rfl HPS.out HPA.out HPB.out ?_ ?_ ?_ ?_ ?_ ?_ (HS43.out.reorder ?_)
          · rw [List.length_set]
          · rw [T.keys_nd, List.length_take]; have := HKK.out; omega
          · rw [List.length_take]; omega
          · rw [T.kids_nd, List.length_take, List.length_take]; have := HPLA.out; omega
          · rw [T.keys_nd, List.length_cons]
          · rw [List.length_cons]
          · rw [T.kids_nd, List.length_append, List.length_drop, List.length_cons]; have := HPLB.out; have := HPLA.out; have := HPK.out; omega
          · simp only [T.kids_nd, T.keys_nd]
            rw [zip_split (subRes h) (k + 1) psa a.kids HPLA.out, hdr]
            have hzz : List.zipWith (subRes h) (qz :: psb) (a.kids.drop (k + 1) ++ b.kids) = List.zipWith (subRes h) [qz] (a.kids.drop (k + 1)) ++ List.zipWith (subRes h) psb b.kids := by
              rw [show qz :: psb = [qz] ++ psb from rfl, List.zipWith_append (by rw [List.length_drop]; have := HPLA.out; have := HPK.out; simp; omega)]
            rw [hzz]
            (intro x; simp only [List.count_append, List.count_cons, List.count_nil, List.cons_append, List.nil_append, List.append_assoc]; omega)


end Go.Proofs.Ytpaffpiaoanegaa
