/-
  What is proved here: two children that lie side by side opened and shut; they become one ((*node).join of package tree).
  No condition: each lemma names its own.
-/
import Derived.Test.YtpaffpiaoanegaaTreeK
import Derived.Deep.QuietTactic
import Derived.BigQuiet
set_option linter.unusedVariables false
set_option linter.unusedSimpArgs false
namespace Go.Proofs.Ytpaffpiaoanegaa
open Go.RowKit

theorem zip_cut2 {f : Nat → T → Res} {ps : List Nat} {ca cb : List T} {a b : T} (hl : ps.length = (ca ++ a :: b :: cb).length) :
    ∃ pa qa qb pb, ps = pa ++ qa :: qb :: pb ∧ pa.length = ca.length ∧ pb.length = cb.length ∧ List.zipWith f ps (ca ++ a :: b :: cb) = List.zipWith f pa ca ++ f qa a :: f qb b :: List.zipWith f pb cb := by
  obtain ⟨pa, qa, pb, h1, h2, h3, h4⟩ := zip_cut (f := f) hl
  cases pb with
  | nil => simp at h3
  | cons qb pb => exact ⟨pa, qa, qb, pb, h1, h2, by simpa using h3, h4⟩

/-- An append of whatever slice onto a row, as one step of a region that draws its order. -/
theorem step_append_src {P : Program} {w W : World} {l : List Res} {e : TypeId} {ops : Array Oper} {o : Oper} {a : Act} {K : Act → World → Prop} {Q : Exit → Act → World → Prop} {E : Prop} (hgd : o.guard = none) (s x : Operand) (t : TypeId)
    (ho : o.op = .call { callee := .builtin .append, args := #[s, x], argTypes := #[t, t] })
    (i : TypeInfo) (z : Value) (size bytes : Nat) (ht : P.underlying t = some (.slice e)) (hi : P.info? e = some i ∧ i.zero = some z ∧ i.size = size ∧ i.bytes = bytes) (hzs : z.cells.size = size) (hsz : 0 < size)
    (v : Value) (n : Nat) (xs : List Value) (hs : a.eval s = v)
    (p : Option Addr) (m c : Nat) (news : List Value) (hx : a.eval x = .slice p m c) (hl : news.length = m * size) (hnews : ∀ j u, news[j]? = some u → ∃ b o, p = some ⟨b, o, none⟩ ∧ W.cell? ⟨b, o + j, none⟩ = some u) (h1 : ∀ u ∈ news, u.oneCell' = true)
    (hsep : Sep w W (rowRes e size v n xs :: l))
    (h63 : n + m ≤ maxLen) (hbytes : (n + m) * bytes ≤ 140737488355328)
    (h : ∀ p' q w', Sep w w' (rowRes e size (.slice p' (n + m) q) (n + m) (xs ++ news) :: l) → K (a.put o.dst (.slice p' (n + m) q)) w') :
    if Region.wanted o (yielded ops a.tmps) = true then Oper.wp P o a W K Q else E := by
  have hw : Region.wanted o (yielded ops a.tmps) = true := by simp [Region.wanted, hgd]
  rw [if_pos hw]
  obtain ⟨p', q, w', hr, h2, h3, h4⟩ := run_append_src (P := P) W t o.type e i z size bytes ht hi.1 hi.2.1 hi.2.2.1 hi.2.2.2 hzs hsz v n xs hsep.row p m c news hl hnews h1 h63 hbytes
  unfold Oper.wp execOp
  simp only [ho, resolve, invoke, builtin, Sem.run_bind, Sem.run_pure, Result.andThen_ok, List.map_toArray, List.map_cons, List.map_nil, hs, hx, hr]
  refine h p' q w' (hsep.turn ?_)
  rintro F ⟨_, rfl⟩
  exact ⟨_, ⟨h2, rfl⟩, h3, h4⟩

theorem row_src {W : World} {e : TypeId} {size : Nat} {p : Option Addr} {n q : Nat} {xs : List Value} (h : W.ownsRow 0 e size (.slice p n q) n xs) : ∀ j u, xs[j]? = some u → ∃ b o, p = some ⟨b, o, none⟩ ∧ W.cell? ⟨b, o + j, none⟩ = some u := by
  intro j u hu
  obtain ⟨g, h1, h2, _⟩ := ownsRow_cell_of h hu
  exact ⟨g, 0, h1, by rw [Nat.zero_add]; exact h2⟩

/-- A node opened, and two of its children that lie side by side. -/
theorem Sep.open2 {w W : World} {l : List Res} {h p : Nat} {t a b : T} {ca cb : List T} (hs : Sep w W (nodeRes (h + 1) p t :: l)) (ht : t.kids = ca ++ a :: b :: cb) :
    ∃ (kp : Option Addr) (kq g cq : Nat) (ps pa pb : List Nat) (qa qb : Nat) (kpa : Option Addr) (kqa : Nat) (cpa : Option Addr) (cqa : Nat) (psa : List Nat) (kpb : Option Addr) (kqb : Nat) (cpb : Option Addr) (cqb : Nat) (psb : List Nat),
      ps = pa ++ qa :: qb :: pb ∧ pa.length = ca.length ∧ pb.length = cb.length ∧ psa.length = a.kids.length ∧ psb.length = b.kids.length ∧
      Sep w W (blkRes p (.cells #[.slice kp t.keys.length kq, .slice (some ⟨g, 0, none⟩) ps.length cq] 91 (0, 0)) :: rowRes 31 2 (.slice kp t.keys.length kq) (t.keys.length) (cellsE (t.keys)) :: rowRes 84 1 (.slice (some ⟨g, 0, none⟩) ps.length cq) (ps.length) ((ps).map ptrV) :: blkRes qa (.cells #[.slice kpa a.keys.length kqa, .slice cpa psa.length cqa] 91 (0, 0)) :: rowRes 31 2 (.slice kpa a.keys.length kqa) (a.keys.length) (cellsE (a.keys)) :: rowRes 84 1 (.slice cpa psa.length cqa) (psa.length) ((psa).map ptrV) :: blkRes qb (.cells #[.slice kpb b.keys.length kqb, .slice cpb psb.length cqb] 91 (0, 0)) :: rowRes 31 2 (.slice kpb b.keys.length kqb) (b.keys.length) (cellsE (b.keys)) :: rowRes 84 1 (.slice cpb psb.length cqb) (psb.length) ((psb).map ptrV) :: (List.zipWith (subRes h) psa a.kids ++ (List.zipWith (subRes h) psb b.kids ++ (List.zipWith (subRes (h + 1)) pa ca ++ (List.zipWith (subRes (h + 1)) pb cb ++ (l)))))) := by
  obtain ⟨kp, kq, cp, cq, ps, hpl, hs1⟩ := hs.nodeOpen
  have hpl' := hpl
  rw [ht] at hs1 hpl'
  obtain ⟨pa, qa, qb, pb, hps, hpa, hpb, hz⟩ := zip_cut2 (f := subRes (h + 1)) hpl'
  rw [hz] at hs1
  have rP := hs1.rowOf (e := 84) (size := 1) (v := .slice cp ps.length cq) (n := ps.length) (xs := ps.map ptrV) (by simp)
  obtain ⟨g, rfl, _⟩ := kid_cell rP (i := pa.length) (q := qa) (by rw [hps, List.getElem?_append_right (Nat.le_refl _), Nat.sub_self]; rfl)
  have hs2 := hs1.reorder (l' := nodeRes h qa a :: (nodeRes h qb b :: blkRes p (.cells #[.slice kp t.keys.length kq, .slice (some ⟨g, 0, none⟩) ps.length cq] 91 (0, 0)) :: rowRes 31 2 (.slice kp t.keys.length kq) (t.keys.length) (cellsE (t.keys)) :: rowRes 84 1 (.slice (some ⟨g, 0, none⟩) ps.length cq) (ps.length) ((ps).map ptrV) :: (List.zipWith (subRes (h + 1)) pa ca ++ (List.zipWith (subRes (h + 1)) pb cb ++ l)))) (by rw [show subRes (h + 1) qa a = nodeRes h qa a from rfl, show subRes (h + 1) qb b = nodeRes h qb b from rfl]; (intro x; simp only [List.count_append, List.count_cons, List.count_nil, List.cons_append, List.nil_append, List.append_assoc]; omega))
  obtain ⟨kpa, kqa, cpa, cqa, psa, hpla, hs3⟩ := hs2.nodeOpen
  have hs4 := hs3.reorder (l' := nodeRes h qb b :: (blkRes p (.cells #[.slice kp t.keys.length kq, .slice (some ⟨g, 0, none⟩) ps.length cq] 91 (0, 0)) :: rowRes 31 2 (.slice kp t.keys.length kq) (t.keys.length) (cellsE (t.keys)) :: rowRes 84 1 (.slice (some ⟨g, 0, none⟩) ps.length cq) (ps.length) ((ps).map ptrV) :: blkRes qa (.cells #[.slice kpa a.keys.length kqa, .slice cpa psa.length cqa] 91 (0, 0)) :: rowRes 31 2 (.slice kpa a.keys.length kqa) (a.keys.length) (cellsE (a.keys)) :: rowRes 84 1 (.slice cpa psa.length cqa) (psa.length) ((psa).map ptrV) :: (List.zipWith (subRes h) psa a.kids ++ (List.zipWith (subRes (h + 1)) pa ca ++ (List.zipWith (subRes (h + 1)) pb cb ++ l))))) (by (intro x; simp only [List.count_append, List.count_cons, List.count_nil, List.cons_append, List.nil_append, List.append_assoc]; omega))
  obtain ⟨kpb, kqb, cpb, cqb, psb, hplb, hs5⟩ := hs4.nodeOpen
  exact ⟨kp, kq, g, cq, ps, pa, pb, qa, qb, kpa, kqa, cpa, cqa, psa, kpb, kqb, cpb, cqb, psb, hps, hpa, hpb, hpla, hplb, hs5.reorder (by (intro x; simp only [List.count_append, List.count_cons, List.count_nil, List.cons_append, List.nil_append, List.append_assoc]; omega))⟩

/-- Shut again, the two children with it. -/
theorem Sep.shutTwo {w W : World} {l : List Res} {h p n m na ma nb mb : Nat} {ks : List E} {ca cb : List T} {a b : T} {kv cv kva cva kvb cvb : Value} {ps pa pb psa psb : List Nat} {qa qb : Nat} (hn : n = ks.length) (hm : m = ps.length) (hps : ps = pa ++ qa :: qb :: pb)
    (hpa : pa.length = ca.length) (hpb : pb.length = cb.length) (hna : na = a.keys.length) (hma : ma = psa.length) (hka : psa.length = a.kids.length) (hnb : nb = b.keys.length) (hmb : mb = psb.length) (hkb : psb.length = b.kids.length)
    (hs : Sep w W (blkRes p (.cells #[kv, cv] 91 (0, 0)) :: rowRes 31 2 (kv) (n) (cellsE (ks)) :: rowRes 84 1 (cv) (m) ((ps).map ptrV) :: blkRes qa (.cells #[kva, cva] 91 (0, 0)) :: rowRes 31 2 (kva) (na) (cellsE (a.keys)) :: rowRes 84 1 (cva) (ma) ((psa).map ptrV) :: blkRes qb (.cells #[kvb, cvb] 91 (0, 0)) :: rowRes 31 2 (kvb) (nb) (cellsE (b.keys)) :: rowRes 84 1 (cvb) (mb) ((psb).map ptrV) :: (List.zipWith (subRes h) psa a.kids ++ (List.zipWith (subRes h) psb b.kids ++ (List.zipWith (subRes (h + 1)) pa ca ++ (List.zipWith (subRes (h + 1)) pb cb ++ (l))))))) :
    Sep w W (nodeRes (h + 1) p (.nd ks (ca ++ a :: b :: cb)) :: l) := by
  have h1 := Sep.nodeShut2 (h := h) (p := qb) (kv := kvb) (cv := cvb) (t := b) (ps := psb) (l := blkRes p (.cells #[kv, cv] 91 (0, 0)) :: rowRes 31 2 (kv) (n) (cellsE (ks)) :: rowRes 84 1 (cv) (m) ((ps).map ptrV) :: blkRes qa (.cells #[kva, cva] 91 (0, 0)) :: rowRes 31 2 (kva) (na) (cellsE (a.keys)) :: rowRes 84 1 (cva) (ma) ((psa).map ptrV) :: (List.zipWith (subRes h) psa a.kids ++ (List.zipWith (subRes (h + 1)) pa ca ++ (List.zipWith (subRes (h + 1)) pb cb ++ (l))))) hnb hmb hkb (hs.reorder (by (intro x; simp only [List.count_append, List.count_cons, List.count_nil, List.cons_append, List.nil_append, List.append_assoc]; omega)))
  have h2 := Sep.nodeShut2 (h := h) (p := qa) (kv := kva) (cv := cva) (t := a) (ps := psa) (l := nodeRes h qb b :: blkRes p (.cells #[kv, cv] 91 (0, 0)) :: rowRes 31 2 (kv) (n) (cellsE (ks)) :: rowRes 84 1 (cv) (m) ((ps).map ptrV) :: (List.zipWith (subRes (h + 1)) pa ca ++ (List.zipWith (subRes (h + 1)) pb cb ++ (l)))) hna hma hka (h1.reorder (by (intro x; simp only [List.count_append, List.count_cons, List.count_nil, List.cons_append, List.nil_append, List.append_assoc]; omega)))
  refine Sep.nodeShut2 (h := h + 1) (kv := kv) (cv := cv) (ps := ps) hn hm (by rw [hps, T.kids_nd]; simp only [List.length_append, List.length_cons]; omega) (h2.reorder ?_)
  have hzz : List.zipWith (subRes (h + 1)) ps (ca ++ a :: b :: cb) = List.zipWith (subRes (h + 1)) pa ca ++ nodeRes h qa a :: nodeRes h qb b :: List.zipWith (subRes (h + 1)) pb cb := by
    rw [hps, List.zipWith_append hpa]; rfl
  rw [T.kids_nd, T.keys_nd, hzz]
  (intro x; simp only [List.count_append, List.count_cons, List.count_nil, List.cons_append, List.nil_append, List.append_assoc]; omega)

/-- Shut again, with one child in the place of two. -/
theorem Sep.shutOne {w W : World} {l : List Res} {h p n m na ma : Nat} {ks : List E} {ca cb : List T} {a : T} {kv cv kva cva : Value} {ps pa pb psa : List Nat} {qa : Nat} (hn : n = ks.length) (hm : m = ps.length) (hps : ps = pa ++ qa :: pb)
    (hpa : pa.length = ca.length) (hpb : pb.length = cb.length) (hna : na = a.keys.length) (hma : ma = psa.length) (hka : psa.length = a.kids.length)
    (hs : Sep w W (blkRes p (.cells #[kv, cv] 91 (0, 0)) :: rowRes 31 2 (kv) (n) (cellsE (ks)) :: rowRes 84 1 (cv) (m) ((ps).map ptrV) :: blkRes qa (.cells #[kva, cva] 91 (0, 0)) :: rowRes 31 2 (kva) (na) (cellsE (a.keys)) :: rowRes 84 1 (cva) (ma) ((psa).map ptrV) :: (List.zipWith (subRes h) psa a.kids ++ (List.zipWith (subRes (h + 1)) pa ca ++ (List.zipWith (subRes (h + 1)) pb cb ++ (l)))))) :
    Sep w W (nodeRes (h + 1) p (.nd ks (ca ++ a :: cb)) :: l) := by
  have h2 := Sep.nodeShut2 (h := h) (p := qa) (kv := kva) (cv := cva) (t := a) (ps := psa) (l := blkRes p (.cells #[kv, cv] 91 (0, 0)) :: rowRes 31 2 (kv) (n) (cellsE (ks)) :: rowRes 84 1 (cv) (m) ((ps).map ptrV) :: (List.zipWith (subRes (h + 1)) pa ca ++ (List.zipWith (subRes (h + 1)) pb cb ++ (l)))) hna hma hka (hs.reorder (by (intro x; simp only [List.count_append, List.count_cons, List.count_nil, List.cons_append, List.nil_append, List.append_assoc]; omega)))
  refine Sep.nodeShut2 (h := h + 1) (kv := kv) (cv := cv) (ps := ps) hn hm (by rw [hps, T.kids_nd]; simp only [List.length_append, List.length_cons]; omega) (h2.reorder ?_)
  have hzz : List.zipWith (subRes (h + 1)) ps (ca ++ a :: cb) = List.zipWith (subRes (h + 1)) pa ca ++ nodeRes h qa a :: List.zipWith (subRes (h + 1)) pb cb := by
    rw [hps, List.zipWith_append hpa]; rfl
  rw [T.kids_nd, T.keys_nd, hzz]
  (intro x; simp only [List.count_append, List.count_cons, List.count_nil, List.cons_append, List.nil_append, List.append_assoc]; omega)

set_option maxRecDepth 100000 in
set_option maxHeartbeats 2000000 in
theorem join_any {w W : World} {l : List Res} {h p : Nat} {t a b : T} {e : E} {i : Nat} {ka kb : List E} {ca cb : List T} (hs : Sep w W (nodeRes (h + 1) p t :: l)) (hk : t.keys = ka ++ e :: kb) (ht : t.kids = ca ++ a :: b :: cb) (hki : ka.length = i) (hi : ca.length = i) (htn : t.keys.length ≤ 100) (htk : t.kids.length ≤ 101) (han : a.keys.length ≤ 100) (hbn : b.keys.length ≤ 100) (hak : a.kids.length ≤ 101) (hbk : b.kids.length ≤ 101) :
    Calls Try.prog 58 #[.pointer (some ⟨p, 0, none⟩), .int .i64 i] W fun r W' => r = .returned (.tuple #[]) ∧ Sep w W' (nodeRes (h + 1) p (glueT t i) :: l) := by
  obtain ⟨ie, IE⟩ := info_of Try.infoEnt
  obtain ⟨ip, IP⟩ := info_of Try.infoNode
  obtain ⟨kp, kq, g, cq, ps, pa, pb, qa, qb, kpa, kqa, cpa, cqa, psa, kpb, kqb, cpb, cqb, psb, hps, hpa, hpb, hpla, hplb, hs0⟩ := hs.open2 ht
  have hpsl : ps.length = t.kids.length := by rw [hps, ht]; simp only [List.length_append, List.length_cons]; omega
  have rP := hs0.rowOf (e := 84) (size := 1) (v := .slice (some ⟨g, 0, none⟩) ps.length cq) (n := ps.length) (xs := ps.map ptrV) (by simp)
  have ga : ps[i]? = some qa := by rw [hps, List.getElem?_append_right (by omega), hpa, hi, Nat.sub_self]; rfl
  have gb : ps[i + 1]? = some qb := by rw [hps, List.getElem?_append_right (by omega), hpa, hi, show i + 1 - i = 1 by omega]; rfl
  obtain ⟨_, he, c1⟩ := kid_cell rP ga
  cases he
  obtain ⟨_, he, c2⟩ := kid_cell rP gb
  cases he
  have hil : i < ps.length := (List.getElem?_eq_some_iff.1 ga).1
  have hil2 : i + 1 < ps.length := (List.getElem?_eq_some_iff.1 gb).1
  have hpn : ps.length ≤ 101 := by omega
  have hkn : i < t.keys.length := by rw [hk]; simp; omega
  have hke : t.keys[i]? = some e := by rw [hk, List.getElem?_append_right (by omega), hki, Nat.sub_self]; rfl
  have hpla2 : psa.length ≤ 101 := by omega
  have hplb2 : psb.length ≤ 101 := by omega
  have HS0 := Lib.hid (show Sep w W (blkRes p (.cells #[.slice kp t.keys.length kq, .slice (some ⟨g, 0, none⟩) ps.length cq] 91 (0, 0)) :: rowRes 31 2 (.slice kp t.keys.length kq) (t.keys.length) (cellsE (t.keys)) :: rowRes 84 1 (.slice (some ⟨g, 0, none⟩) ps.length cq) (ps.length) ((ps).map ptrV) :: blkRes qa (.cells #[.slice kpa a.keys.length kqa, .slice cpa psa.length cqa] 91 (0, 0)) :: rowRes 31 2 (.slice kpa a.keys.length kqa) (a.keys.length) (cellsE (a.keys)) :: rowRes 84 1 (.slice cpa psa.length cqa) (psa.length) ((psa).map ptrV) :: blkRes qb (.cells #[.slice kpb b.keys.length kqb, .slice cpb psb.length cqb] 91 (0, 0)) :: rowRes 31 2 (.slice kpb b.keys.length kqb) (b.keys.length) (cellsE (b.keys)) :: rowRes 84 1 (.slice cpb psb.length cqb) (psb.length) ((psb).map ptrV) :: (List.zipWith (subRes h) psa a.kids ++ (List.zipWith (subRes h) psb b.kids ++ (List.zipWith (subRes (h + 1)) pa ca ++ (List.zipWith (subRes (h + 1)) pb cb ++ (l)))))) from hs0)
  have HPS := Lib.hid hps
  have HT := Lib.hid ht
  have HK := Lib.hid hk
  have HI := Lib.hid hi
  have HKI := Lib.hid hki
  have HPA := Lib.hid hpa
  have HPB := Lib.hid hpb
  have HPLA := Lib.hid hpla
  have HPLB := Lib.hid hplb
  have HKE := Lib.hid hke
  clear hs hs0 rP hps ht hk hi hki hpa hpb hpla hplb hke ga gb hpsl
  have p1 : World.cell? (W) ⟨p, 1, none⟩ = some (.slice (some ⟨g, 0, none⟩) ps.length cq) := cell_of_block (HS0.out.blkOf (g := p) (o := .cells #[.slice kp t.keys.length kq, .slice (some ⟨g, 0, none⟩) ps.length cq] 91 (0, 0)) (by simp)) 1 (v := .slice (some ⟨g, 0, none⟩) ps.length cq) rfl
  have hw1 : IntKind.i64.wrap ((i : Int) + 1) = (i : Int) + 1 := IntWalk.i64_in _ (by omega)
  have hw2 : (0 : Int) ≤ (i : Int) + 1 := by omega
  have hw3 : ((i : Int) + 1).toNat = i + 1 := by omega
  go_enter Try.func58, Try.ntmps58
  go_wp2_with fail
  go_quiet (fail)
  clear hw1 hw2 hw3
  have HS1 := Lib.hid (show Sep w (W.drewN nq) (blkRes p (.cells #[.slice kp t.keys.length kq, .slice (some ⟨g, 0, none⟩) ps.length cq] 91 (0, 0)) :: rowRes 31 2 (.slice kp t.keys.length kq) (t.keys.length) (cellsE (t.keys)) :: rowRes 84 1 (.slice (some ⟨g, 0, none⟩) ps.length cq) (ps.length) ((ps).map ptrV) :: blkRes qa (.cells #[.slice kpa a.keys.length kqa, .slice cpa psa.length cqa] 91 (0, 0)) :: rowRes 31 2 (.slice kpa a.keys.length kqa) (a.keys.length) (cellsE (a.keys)) :: rowRes 84 1 (.slice cpa psa.length cqa) (psa.length) ((psa).map ptrV) :: blkRes qb (.cells #[.slice kpb b.keys.length kqb, .slice cpb psb.length cqb] 91 (0, 0)) :: rowRes 31 2 (.slice kpb b.keys.length kqb) (b.keys.length) (cellsE (b.keys)) :: rowRes 84 1 (.slice cpb psb.length cqb) (psb.length) ((psb).map ptrV) :: (List.zipWith (subRes h) psa a.kids ++ (List.zipWith (subRes h) psb b.kids ++ (List.zipWith (subRes (h + 1)) pa ca ++ (List.zipWith (subRes (h + 1)) pb cb ++ (l)))))) from HS0.out.only (Only.drewN [] _ nq))
  clear HS0
  generalize hV : W.drewN nq = V at HS1 ⊢
  clear hV p1 c1 c2
  have p0 : World.cell? (V) ⟨p, 0, none⟩ = some (.slice kp t.keys.length kq) := cell_of_block (HS1.out.blkOf (g := p) (o := .cells #[.slice kp t.keys.length kq, .slice (some ⟨g, 0, none⟩) ps.length cq] 91 (0, 0)) (by simp)) 0 (v := .slice kp t.keys.length kq) rfl
  have a0 : World.cell? (V) ⟨qa, 0, none⟩ = some (.slice kpa a.keys.length kqa) := cell_of_block (HS1.out.blkOf (g := qa) (o := .cells #[.slice kpa a.keys.length kqa, .slice cpa psa.length cqa] 91 (0, 0)) (by simp)) 0 (v := .slice kpa a.keys.length kqa) rfl
  have b0 : World.cell? (V) ⟨qb, 0, none⟩ = some (.slice kpb b.keys.length kqb) := cell_of_block (HS1.out.blkOf (g := qb) (o := .cells #[.slice kpb b.keys.length kqb, .slice cpb psb.length cqb] 91 (0, 0)) (by simp)) 0 (v := .slice kpb b.keys.length kqb) rfl
  have rK := HS1.out.rowOf (e := 31) (size := 2) (v := .slice kp t.keys.length kq) (n := t.keys.length) (xs := cellsE t.keys) (by simp)
  obtain ⟨gk, rfl, d0, d1⟩ := keyCells rK HKE.out
  clear rK
  have a0a : World.cell? (V.alloc (.cells #[.string e.1, .int .i64 e.2] 31)) ⟨qa, 0, none⟩ = some (.slice kpa a.keys.length kqa) := Lib.cell?_alloc_some _ a0
  have b0a : World.cell? (V.alloc (.cells #[.string e.1, .int .i64 e.2] 31)) ⟨qb, 0, none⟩ = some (.slice kpb b.keys.length kqb) := Lib.cell?_alloc_some _ b0
  have HS2 := Lib.hid (show Sep w (V) (rowRes 31 2 (.slice kpa a.keys.length kqa) (a.keys.length) (cellsE (a.keys)) :: blkRes qa (.cells #[.slice kpa a.keys.length kqa, .slice cpa psa.length cqa] 91 (0, 0)) :: blkRes qb (.cells #[.slice kpb b.keys.length kqb, .slice cpb psb.length cqb] 91 (0, 0)) :: blkRes p (.cells #[.slice (some ⟨gk, 0, none⟩) t.keys.length kq, .slice (some ⟨g, 0, none⟩) ps.length cq] 91 (0, 0)) :: rowRes 31 2 (.slice (some ⟨gk, 0, none⟩) t.keys.length kq) (t.keys.length) (cellsE (t.keys)) :: rowRes 84 1 (.slice (some ⟨g, 0, none⟩) ps.length cq) (ps.length) ((ps).map ptrV) :: rowRes 84 1 (.slice cpa psa.length cqa) (psa.length) ((psa).map ptrV) :: rowRes 31 2 (.slice kpb b.keys.length kqb) (b.keys.length) (cellsE (b.keys)) :: rowRes 84 1 (.slice cpb psb.length cqb) (psb.length) ((psb).map ptrV) :: (List.zipWith (subRes h) psa a.kids ++ (List.zipWith (subRes h) psb b.kids ++ (List.zipWith (subRes (h + 1)) pa ca ++ (List.zipWith (subRes (h + 1)) pb cb ++ (l)))))) from HS1.out.reorder (by (intro x; simp only [List.count_append, List.count_cons, List.count_nil, List.cons_append, List.nil_append, List.append_assoc]; omega)))
  clear HS1
  have HA1 := Lib.hid ((Sep.forget ((HS2.out)) (.cells #[.string e.1, .int .i64 e.2] 31)).drew)
  have HNB : Hid (((V.alloc (.cells #[.string e.1, .int .i64 e.2] 31)).drew).heap[V.heap.size]? = some (.cells #[.string e.1, .int .i64 e.2] 31 (0, 0))) := heap_alloc_self (w := V)
  have mixed : Try.prog.follows .mixedOrders = true := by kernel_rfl
  go_upto_region 1 with fail
  go_cut [] (fun wx => ∃ (p5 : Option Addr) (q5 : Nat), Sep w wx (blkRes qa (.cells #[.slice p5 (a.keys.length + 1 + b.keys.length) q5, .slice cpa psa.length cqa] 91 (0, 0)) :: rowRes 31 2 (.slice p5 (a.keys.length + 1 + b.keys.length) q5) (a.keys.length + 1 + b.keys.length) (cellsE (a.keys ++ e :: b.keys)) :: blkRes qb (.cells #[.slice kpb b.keys.length kqb, .slice cpb psb.length cqb] 91 (0, 0)) :: blkRes p (.cells #[.slice (some ⟨gk, 0, none⟩) t.keys.length kq, .slice (some ⟨g, 0, none⟩) ps.length cq] 91 (0, 0)) :: rowRes 31 2 (.slice (some ⟨gk, 0, none⟩) t.keys.length kq) (t.keys.length) (cellsE (t.keys)) :: rowRes 84 1 (.slice (some ⟨g, 0, none⟩) ps.length cq) (ps.length) ((ps).map ptrV) :: rowRes 84 1 (.slice cpa psa.length cqa) (psa.length) ((psa).map ptrV) :: rowRes 31 2 (.slice kpb b.keys.length kqb) (b.keys.length) (cellsE (b.keys)) :: rowRes 84 1 (.slice cpb psb.length cqb) (psb.length) ((psb).map ptrV) :: (List.zipWith (subRes h) psa a.kids ++ (List.zipWith (subRes h) psb b.kids ++ (List.zipWith (subRes (h + 1)) pa ca ++ (List.zipWith (subRes (h + 1)) pb cb ++ (l)))))))
  case first =>
    go_wp2_with fail
    go_region_law (first | (refine step_append_sep (w := w) (e := 31) rfl (.tmp 25) (.tmp 33) 32 rfl ie _ 2 24 Try.underlying32 IE.out rfl (by decide) _ a.keys.length (cellsE a.keys) rfl rfl HNB.out rfl (by intro u hu; simp at hu; rcases hu with h | h <;> subst h <;> rfl) HA1.out (by unfold maxLen; omega) (by omega) ?_; intro p4 q4 w4 hs4; have HS3 := Lib.hid (show Sep w (w4) (rowRes 31 2 (.slice p4 (a.keys.length + 1) q4) (a.keys.length + 1) (cellsE a.keys ++ [.string e.1, .int .i64 e.2]) :: blkRes qa (.cells #[.slice kpa a.keys.length kqa, .slice cpa psa.length cqa] 91 (0, 0)) :: blkRes qb (.cells #[.slice kpb b.keys.length kqb, .slice cpb psb.length cqb] 91 (0, 0)) :: blkRes p (.cells #[.slice (some ⟨gk, 0, none⟩) t.keys.length kq, .slice (some ⟨g, 0, none⟩) ps.length cq] 91 (0, 0)) :: rowRes 31 2 (.slice (some ⟨gk, 0, none⟩) t.keys.length kq) (t.keys.length) (cellsE (t.keys)) :: rowRes 84 1 (.slice (some ⟨g, 0, none⟩) ps.length cq) (ps.length) ((ps).map ptrV) :: rowRes 84 1 (.slice cpa psa.length cqa) (psa.length) ((psa).map ptrV) :: rowRes 31 2 (.slice kpb b.keys.length kqb) (b.keys.length) (cellsE (b.keys)) :: rowRes 84 1 (.slice cpb psb.length cqb) (psb.length) ((psb).map ptrV) :: (List.zipWith (subRes h) psa a.kids ++ (List.zipWith (subRes h) psb b.kids ++ (List.zipWith (subRes (h + 1)) pa ca ++ (List.zipWith (subRes (h + 1)) pb cb ++ (l)))))) from hs4); clear HS2; have b0n : World.cell? (w4) ⟨qb, 0, none⟩ = some (.slice kpb b.keys.length kqb) := cell_of_block (HS3.out.blkOf (g := qb) (o := .cells #[.slice kpb b.keys.length kqb, .slice cpb psb.length cqb] 91 (0, 0)) (by simp)) 0 (v := .slice kpb b.keys.length kqb) rfl; have HRB := Lib.hid (row_src (HS3.out.rowOf (e := 31) (size := 2) (v := .slice kpb b.keys.length kqb) (n := b.keys.length) (xs := cellsE b.keys) (by simp))); clear hs4) | (refine step_append_src (w := w) (e := 31) rfl (.tmp 34) (.tmp 38) 32 rfl ie _ 2 24 Try.underlying32 IE.out rfl (by decide) (.slice p4 (a.keys.length + 1) q4) (a.keys.length + 1) (cellsE a.keys ++ [.string e.1, .int .i64 e.2]) rfl kpb b.keys.length kqb (cellsE b.keys) rfl (cellsE_length _) HRB.out (cellsE_one _) HS3.out (by unfold maxLen; omega) (by omega) ?_; intro p5 q5 w5 hs5; have HS4 := Lib.hid (show Sep w (w5) (rowRes 31 2 (.slice p5 (a.keys.length + 1 + b.keys.length) q5) (a.keys.length + 1 + b.keys.length) (cellsE (a.keys ++ e :: b.keys)) :: blkRes qa (.cells #[.slice kpa a.keys.length kqa, .slice cpa psa.length cqa] 91 (0, 0)) :: blkRes qb (.cells #[.slice kpb b.keys.length kqb, .slice cpb psb.length cqb] 91 (0, 0)) :: blkRes p (.cells #[.slice (some ⟨gk, 0, none⟩) t.keys.length kq, .slice (some ⟨g, 0, none⟩) ps.length cq] 91 (0, 0)) :: rowRes 31 2 (.slice (some ⟨gk, 0, none⟩) t.keys.length kq) (t.keys.length) (cellsE (t.keys)) :: rowRes 84 1 (.slice (some ⟨g, 0, none⟩) ps.length cq) (ps.length) ((ps).map ptrV) :: rowRes 84 1 (.slice cpa psa.length cqa) (psa.length) ((psa).map ptrV) :: rowRes 31 2 (.slice kpb b.keys.length kqb) (b.keys.length) (cellsE (b.keys)) :: rowRes 84 1 (.slice cpb psb.length cqb) (psb.length) ((psb).map ptrV) :: (List.zipWith (subRes h) psa a.kids ++ (List.zipWith (subRes h) psb b.kids ++ (List.zipWith (subRes (h + 1)) pa ca ++ (List.zipWith (subRes (h + 1)) pb cb ++ (l)))))) from (by have h5 := hs5; rw [show cellsE a.keys ++ [.string e.1, .int .i64 e.2] ++ cellsE b.keys = cellsE (a.keys ++ e :: b.keys) from by rw [cellsE_append, List.append_assoc]; rfl] at h5; exact h5)); clear HS3; have a0n : World.cell? (w5) ⟨qa, 0, none⟩ = some (.slice kpa a.keys.length kqa) := cell_of_block (HS4.out.blkOf (g := qa) (o := .cells #[.slice kpa a.keys.length kqa, .slice cpa psa.length cqa] 91 (0, 0)) (by simp)) 0 (v := .slice kpa a.keys.length kqa) rfl; have fa0 : World.frozen? (w5) ⟨qa, 0, none⟩ = false := free_of_block (HS4.out.blkOf (g := qa) (o := .cells #[.slice kpa a.keys.length kqa, .slice cpa psa.length cqa] 91 (0, 0)) (by simp)) 0; clear hs5))
    all_goals
      have HS5 := Lib.hid (show Sep w (World.setCell (w5) ⟨qa, 0, none⟩ (.slice p5 (a.keys.length + 1 + b.keys.length) q5)) (blkRes qa (.cells #[.slice p5 (a.keys.length + 1 + b.keys.length) q5, .slice cpa psa.length cqa] 91 (0, 0)) :: rowRes 31 2 (.slice p5 (a.keys.length + 1 + b.keys.length) q5) (a.keys.length + 1 + b.keys.length) (cellsE (a.keys ++ e :: b.keys)) :: blkRes qb (.cells #[.slice kpb b.keys.length kqb, .slice cpb psb.length cqb] 91 (0, 0)) :: blkRes p (.cells #[.slice (some ⟨gk, 0, none⟩) t.keys.length kq, .slice (some ⟨g, 0, none⟩) ps.length cq] 91 (0, 0)) :: rowRes 31 2 (.slice (some ⟨gk, 0, none⟩) t.keys.length kq) (t.keys.length) (cellsE (t.keys)) :: rowRes 84 1 (.slice (some ⟨g, 0, none⟩) ps.length cq) (ps.length) ((ps).map ptrV) :: rowRes 84 1 (.slice cpa psa.length cqa) (psa.length) ((psa).map ptrV) :: rowRes 31 2 (.slice kpb b.keys.length kqb) (b.keys.length) (cellsE (b.keys)) :: rowRes 84 1 (.slice cpb psb.length cqb) (psb.length) ((psb).map ptrV) :: (List.zipWith (subRes h) psa a.kids ++ (List.zipWith (subRes h) psb b.kids ++ (List.zipWith (subRes (h + 1)) pa ca ++ (List.zipWith (subRes (h + 1)) pb cb ++ (l)))))) from (HS4.out.up1).store 0 (.slice p5 (a.keys.length + 1 + b.keys.length) q5))
      clear HS4
      go_wp2_with fail
      go_meet
      exact ⟨p5, q5, HS5.out⟩
  case rest =>
    obtain ⟨p5, q5, hs6⟩ := hcut
    obtain ⟨V2, hV2⟩ : ∃ V2 : World, V2 = wc := ⟨_, rfl⟩
    rw [← hV2] at hs6 ⊢
    clear hV2
    clear HS2
    have HS9 := Lib.hid hs6
    clear hs6 HA1 HNB p0 a0 b0 a0a b0a d0 d1
    have a1 : World.cell? (V2) ⟨qa, 1, none⟩ = some (.slice cpa psa.length cqa) := cell_of_block (HS9.out.blkOf (g := qa) (o := .cells #[.slice p5 (a.keys.length + 1 + b.keys.length) q5, .slice cpa psa.length cqa] 91 (0, 0)) (by simp)) 1 (v := .slice cpa psa.length cqa) rfl
    have b1 : World.cell? (V2) ⟨qb, 1, none⟩ = some (.slice cpb psb.length cqb) := cell_of_block (HS9.out.blkOf (g := qb) (o := .cells #[.slice kpb b.keys.length kqb, .slice cpb psb.length cqb] 91 (0, 0)) (by simp)) 1 (v := .slice cpb psb.length cqb) rfl
    have HS21 := Lib.hid (show Sep w (V2) (rowRes 84 1 (.slice cpa psa.length cqa) (psa.length) ((psa).map ptrV) :: blkRes qa (.cells #[.slice p5 (a.keys.length + 1 + b.keys.length) q5, .slice cpa psa.length cqa] 91 (0, 0)) :: blkRes qb (.cells #[.slice kpb b.keys.length kqb, .slice cpb psb.length cqb] 91 (0, 0)) :: rowRes 31 2 (.slice p5 (a.keys.length + 1 + b.keys.length) q5) (a.keys.length + 1 + b.keys.length) (cellsE (a.keys ++ e :: b.keys)) :: blkRes p (.cells #[.slice (some ⟨gk, 0, none⟩) t.keys.length kq, .slice (some ⟨g, 0, none⟩) ps.length cq] 91 (0, 0)) :: rowRes 31 2 (.slice (some ⟨gk, 0, none⟩) t.keys.length kq) (t.keys.length) (cellsE (t.keys)) :: rowRes 84 1 (.slice (some ⟨g, 0, none⟩) ps.length cq) (ps.length) ((ps).map ptrV) :: rowRes 31 2 (.slice kpb b.keys.length kqb) (b.keys.length) (cellsE (b.keys)) :: rowRes 84 1 (.slice cpb psb.length cqb) (psb.length) ((psb).map ptrV) :: (List.zipWith (subRes h) psa a.kids ++ (List.zipWith (subRes h) psb b.kids ++ (List.zipWith (subRes (h + 1)) pa ca ++ (List.zipWith (subRes (h + 1)) pb cb ++ (l)))))) from HS9.out.reorder (by (intro x; simp only [List.count_append, List.count_cons, List.count_nil, List.cons_append, List.nil_append, List.append_assoc]; omega)))
    clear HS9
    have HRB := Lib.hid (row_src (HS21.out.rowOf (e := 84) (size := 1) (v := .slice cpb psb.length cqb) (n := psb.length) (xs := psb.map ptrV) (by simp)))
    have HA2 := Lib.hid ((HS21.out).drew)
    go_upto_region 2 with fail
    go_cut [] (fun wx => ∃ (p7 : Option Addr) (q7 : Nat), Sep w wx (blkRes qa (.cells #[.slice p5 (a.keys.length + 1 + b.keys.length) q5, .slice p7 (psa.length + psb.length) q7] 91 (0, 0)) :: rowRes 84 1 (.slice p7 (psa.length + psb.length) q7) (psa.length + psb.length) ((psa ++ psb).map ptrV) :: blkRes qb (.cells #[.slice kpb b.keys.length kqb, .slice cpb psb.length cqb] 91 (0, 0)) :: rowRes 31 2 (.slice p5 (a.keys.length + 1 + b.keys.length) q5) (a.keys.length + 1 + b.keys.length) (cellsE (a.keys ++ e :: b.keys)) :: blkRes p (.cells #[.slice (some ⟨gk, 0, none⟩) t.keys.length kq, .slice (some ⟨g, 0, none⟩) ps.length cq] 91 (0, 0)) :: rowRes 31 2 (.slice (some ⟨gk, 0, none⟩) t.keys.length kq) (t.keys.length) (cellsE (t.keys)) :: rowRes 84 1 (.slice (some ⟨g, 0, none⟩) ps.length cq) (ps.length) ((ps).map ptrV) :: rowRes 31 2 (.slice kpb b.keys.length kqb) (b.keys.length) (cellsE (b.keys)) :: rowRes 84 1 (.slice cpb psb.length cqb) (psb.length) ((psb).map ptrV) :: (List.zipWith (subRes h) psa a.kids ++ (List.zipWith (subRes h) psb b.kids ++ (List.zipWith (subRes (h + 1)) pa ca ++ (List.zipWith (subRes (h + 1)) pb cb ++ (l)))))))
    case first =>
      go_wp2_with fail
      go_region_law (first | (refine step_append_src (w := w) (e := 84) rfl (.tmp 46) (.tmp 50) 89 rfl ip _ 1 8 Try.underlying89 IP.out rfl (by decide) (.slice cpa psa.length cqa) psa.length (psa.map ptrV) rfl cpb psb.length cqb (psb.map ptrV) rfl (by simp) HRB.out (ptrs_one _) HA2.out (by unfold maxLen; omega) (by omega) ?_; intro p7 q7 w7 hs7; have HS22 := Lib.hid (show Sep w (w7) (rowRes 84 1 (.slice p7 (psa.length + psb.length) q7) (psa.length + psb.length) ((psa ++ psb).map ptrV) :: blkRes qa (.cells #[.slice p5 (a.keys.length + 1 + b.keys.length) q5, .slice cpa psa.length cqa] 91 (0, 0)) :: blkRes qb (.cells #[.slice kpb b.keys.length kqb, .slice cpb psb.length cqb] 91 (0, 0)) :: rowRes 31 2 (.slice p5 (a.keys.length + 1 + b.keys.length) q5) (a.keys.length + 1 + b.keys.length) (cellsE (a.keys ++ e :: b.keys)) :: blkRes p (.cells #[.slice (some ⟨gk, 0, none⟩) t.keys.length kq, .slice (some ⟨g, 0, none⟩) ps.length cq] 91 (0, 0)) :: rowRes 31 2 (.slice (some ⟨gk, 0, none⟩) t.keys.length kq) (t.keys.length) (cellsE (t.keys)) :: rowRes 84 1 (.slice (some ⟨g, 0, none⟩) ps.length cq) (ps.length) ((ps).map ptrV) :: rowRes 31 2 (.slice kpb b.keys.length kqb) (b.keys.length) (cellsE (b.keys)) :: rowRes 84 1 (.slice cpb psb.length cqb) (psb.length) ((psb).map ptrV) :: (List.zipWith (subRes h) psa a.kids ++ (List.zipWith (subRes h) psb b.kids ++ (List.zipWith (subRes (h + 1)) pa ca ++ (List.zipWith (subRes (h + 1)) pb cb ++ (l)))))) from (by have h7 := hs7; rw [← List.map_append] at h7; exact h7)); clear HS21; have a1n : World.cell? (w7) ⟨qa, 1, none⟩ = some (.slice cpa psa.length cqa) := cell_of_block (HS22.out.blkOf (g := qa) (o := .cells #[.slice p5 (a.keys.length + 1 + b.keys.length) q5, .slice cpa psa.length cqa] 91 (0, 0)) (by simp)) 1 (v := .slice cpa psa.length cqa) rfl; have fa1 : World.frozen? (w7) ⟨qa, 1, none⟩ = false := free_of_block (HS22.out.blkOf (g := qa) (o := .cells #[.slice p5 (a.keys.length + 1 + b.keys.length) q5, .slice cpa psa.length cqa] 91 (0, 0)) (by simp)) 1; clear hs7))
      all_goals
        have HS23 := Lib.hid (show Sep w (World.setCell (w7) ⟨qa, 1, none⟩ (.slice p7 (psa.length + psb.length) q7)) (blkRes qa (.cells #[.slice p5 (a.keys.length + 1 + b.keys.length) q5, .slice p7 (psa.length + psb.length) q7] 91 (0, 0)) :: rowRes 84 1 (.slice p7 (psa.length + psb.length) q7) (psa.length + psb.length) ((psa ++ psb).map ptrV) :: blkRes qb (.cells #[.slice kpb b.keys.length kqb, .slice cpb psb.length cqb] 91 (0, 0)) :: rowRes 31 2 (.slice p5 (a.keys.length + 1 + b.keys.length) q5) (a.keys.length + 1 + b.keys.length) (cellsE (a.keys ++ e :: b.keys)) :: blkRes p (.cells #[.slice (some ⟨gk, 0, none⟩) t.keys.length kq, .slice (some ⟨g, 0, none⟩) ps.length cq] 91 (0, 0)) :: rowRes 31 2 (.slice (some ⟨gk, 0, none⟩) t.keys.length kq) (t.keys.length) (cellsE (t.keys)) :: rowRes 84 1 (.slice (some ⟨g, 0, none⟩) ps.length cq) (ps.length) ((ps).map ptrV) :: rowRes 31 2 (.slice kpb b.keys.length kqb) (b.keys.length) (cellsE (b.keys)) :: rowRes 84 1 (.slice cpb psb.length cqb) (psb.length) ((psb).map ptrV) :: (List.zipWith (subRes h) psa a.kids ++ (List.zipWith (subRes h) psb b.kids ++ (List.zipWith (subRes (h + 1)) pa ca ++ (List.zipWith (subRes (h + 1)) pb cb ++ (l)))))) from (HS22.out.up1).store 1 (.slice p7 (psa.length + psb.length) q7))
        clear HS22
        go_wp2_with fail
        go_meet
        exact ⟨p7, q7, HS23.out⟩
    case rest =>
      obtain ⟨p7, q7, hs8⟩ := hcut
      obtain ⟨V3, hV3⟩ : ∃ V3 : World, V3 = wc := ⟨_, rfl⟩
      rw [← hV3] at hs8 ⊢
      clear hV3
      have HS30 := Lib.hid hs8
      clear hs8 HS21 HA2 HRB a1 b1
      have HS31 := Lib.hid (show Sep w (V3) (rowRes 31 2 (.slice (some ⟨gk, 0, none⟩) t.keys.length kq) (t.keys.length) (cellsE (t.keys)) :: blkRes p (.cells #[.slice (some ⟨gk, 0, none⟩) t.keys.length kq, .slice (some ⟨g, 0, none⟩) ps.length cq] 91 (0, 0)) :: rowRes 84 1 (.slice (some ⟨g, 0, none⟩) ps.length cq) (ps.length) ((ps).map ptrV) :: blkRes qa (.cells #[.slice p5 (a.keys.length + 1 + b.keys.length) q5, .slice p7 (psa.length + psb.length) q7] 91 (0, 0)) :: rowRes 84 1 (.slice p7 (psa.length + psb.length) q7) (psa.length + psb.length) ((psa ++ psb).map ptrV) :: blkRes qb (.cells #[.slice kpb b.keys.length kqb, .slice cpb psb.length cqb] 91 (0, 0)) :: rowRes 31 2 (.slice p5 (a.keys.length + 1 + b.keys.length) q5) (a.keys.length + 1 + b.keys.length) (cellsE (a.keys ++ e :: b.keys)) :: rowRes 31 2 (.slice kpb b.keys.length kqb) (b.keys.length) (cellsE (b.keys)) :: rowRes 84 1 (.slice cpb psb.length cqb) (psb.length) ((psb).map ptrV) :: (List.zipWith (subRes h) psa a.kids ++ (List.zipWith (subRes h) psb b.kids ++ (List.zipWith (subRes (h + 1)) pa ca ++ (List.zipWith (subRes (h + 1)) pb cb ++ (l)))))) from HS30.out.reorder (by (intro x; simp only [List.count_append, List.count_cons, List.count_nil, List.cons_append, List.nil_append, List.append_assoc]; omega)))
      clear HS30
      have p0 : World.cell? (V3) ⟨p, 0, none⟩ = some (.slice (some ⟨gk, 0, none⟩) t.keys.length kq) := cell_of_block (HS31.out.blkOf (g := p) (o := .cells #[.slice (some ⟨gk, 0, none⟩) t.keys.length kq, .slice (some ⟨g, 0, none⟩) ps.length cq] 91 (0, 0)) (by simp)) 0 (v := .slice (some ⟨gk, 0, none⟩) t.keys.length kq) rfl
      have hw1 : IntKind.i64.wrap ((i : Int) + 1) = (i : Int) + 1 := IntWalk.i64_in _ (by omega)
      have hdel := del_ent i (cellsE_one _) hkn (by omega) (HS31.out)
      rw [cellsE_take, cellsE_drop, ← cellsE_append] at hdel
      have HDEL := Lib.hid hdel; clear hdel
      go_wp2_with fail
      refine HDEL.out.mono ?_
      rintro r w9 ⟨p9, q9, rfl, hs9⟩
      clear HDEL p0
      have HS32 := Lib.hid (show Sep w (w9) (rowRes 31 2 (.slice p9 (t.keys.length - 1) q9) (t.keys.length - 1) (cellsE (t.keys.take i ++ t.keys.drop (i + 1))) :: blkRes p (.cells #[.slice (some ⟨gk, 0, none⟩) t.keys.length kq, .slice (some ⟨g, 0, none⟩) ps.length cq] 91 (0, 0)) :: rowRes 84 1 (.slice (some ⟨g, 0, none⟩) ps.length cq) (ps.length) ((ps).map ptrV) :: blkRes qa (.cells #[.slice p5 (a.keys.length + 1 + b.keys.length) q5, .slice p7 (psa.length + psb.length) q7] 91 (0, 0)) :: rowRes 84 1 (.slice p7 (psa.length + psb.length) q7) (psa.length + psb.length) ((psa ++ psb).map ptrV) :: blkRes qb (.cells #[.slice kpb b.keys.length kqb, .slice cpb psb.length cqb] 91 (0, 0)) :: rowRes 31 2 (.slice p5 (a.keys.length + 1 + b.keys.length) q5) (a.keys.length + 1 + b.keys.length) (cellsE (a.keys ++ e :: b.keys)) :: rowRes 31 2 (.slice kpb b.keys.length kqb) (b.keys.length) (cellsE (b.keys)) :: rowRes 84 1 (.slice cpb psb.length cqb) (psb.length) ((psb).map ptrV) :: (List.zipWith (subRes h) psa a.kids ++ (List.zipWith (subRes h) psb b.kids ++ (List.zipWith (subRes (h + 1)) pa ca ++ (List.zipWith (subRes (h + 1)) pb cb ++ (l)))))) from hs9)
      clear HS31
      clear hs9
      have p0 : World.cell? (w9) ⟨p, 0, none⟩ = some (.slice (some ⟨gk, 0, none⟩) t.keys.length kq) := cell_of_block (HS32.out.blkOf (g := p) (o := .cells #[.slice (some ⟨gk, 0, none⟩) t.keys.length kq, .slice (some ⟨g, 0, none⟩) ps.length cq] 91 (0, 0)) (by simp)) 0 (v := .slice (some ⟨gk, 0, none⟩) t.keys.length kq) rfl
      have fp0 : World.frozen? (w9) ⟨p, 0, none⟩ = false := free_of_block (HS32.out.blkOf (g := p) (o := .cells #[.slice (some ⟨gk, 0, none⟩) t.keys.length kq, .slice (some ⟨g, 0, none⟩) ps.length cq] 91 (0, 0)) (by simp)) 0
      have HS33 := Lib.hid (show Sep w (World.setCell (w9) ⟨p, 0, none⟩ (.slice p9 (t.keys.length - 1) q9)) (blkRes p (.cells #[.slice p9 (t.keys.length - 1) q9, .slice (some ⟨g, 0, none⟩) ps.length cq] 91 (0, 0)) :: rowRes 31 2 (.slice p9 (t.keys.length - 1) q9) (t.keys.length - 1) (cellsE (t.keys.take i ++ t.keys.drop (i + 1))) :: rowRes 84 1 (.slice (some ⟨g, 0, none⟩) ps.length cq) (ps.length) ((ps).map ptrV) :: blkRes qa (.cells #[.slice p5 (a.keys.length + 1 + b.keys.length) q5, .slice p7 (psa.length + psb.length) q7] 91 (0, 0)) :: rowRes 84 1 (.slice p7 (psa.length + psb.length) q7) (psa.length + psb.length) ((psa ++ psb).map ptrV) :: blkRes qb (.cells #[.slice kpb b.keys.length kqb, .slice cpb psb.length cqb] 91 (0, 0)) :: rowRes 31 2 (.slice p5 (a.keys.length + 1 + b.keys.length) q5) (a.keys.length + 1 + b.keys.length) (cellsE (a.keys ++ e :: b.keys)) :: rowRes 31 2 (.slice kpb b.keys.length kqb) (b.keys.length) (cellsE (b.keys)) :: rowRes 84 1 (.slice cpb psb.length cqb) (psb.length) ((psb).map ptrV) :: (List.zipWith (subRes h) psa a.kids ++ (List.zipWith (subRes h) psb b.kids ++ (List.zipWith (subRes (h + 1)) pa ca ++ (List.zipWith (subRes (h + 1)) pb cb ++ (l)))))) from (HS32.out.up1).store 0 (.slice p9 (t.keys.length - 1) q9))
      clear HS32
      have p1 : World.cell? (World.setCell (w9) ⟨p, 0, none⟩ (.slice p9 (t.keys.length - 1) q9)) ⟨p, 1, none⟩ = some (.slice (some ⟨g, 0, none⟩) ps.length cq) := cell_of_block (HS33.out.blkOf (g := p) (o := .cells #[.slice p9 (t.keys.length - 1) q9, .slice (some ⟨g, 0, none⟩) ps.length cq] 91 (0, 0)) (by simp)) 1 (v := .slice (some ⟨g, 0, none⟩) ps.length cq) rfl
      have hdel := del_ptr (i + 1) (ptrs_one _) hil2 (by omega) (HS33.out.up2)
      rw [show ((i + 1 : Nat) : Int) = (i : Int) + 1 by omega, ← List.map_take, ← List.map_drop, ← List.map_append, show (i : Int) + 1 + 1 = (i : Int) + 2 by omega] at hdel
      have HDEL := Lib.hid hdel; clear hdel
      have hw4 : IntKind.i64.wrap ((i : Int) + 2) = (i : Int) + 2 := IntWalk.i64_in _ (by omega)
      go_wp2_with fail
      refine HDEL.out.mono ?_
      rintro r w10 ⟨p10, q10, rfl, hs10⟩
      clear HDEL p1 p0 fp0
      have HS34 := Lib.hid (show Sep w (w10) (rowRes 84 1 (.slice p10 (ps.length - 1) q10) (ps.length - 1) ((ps.take (i + 1) ++ ps.drop (i + 1 + 1)).map ptrV) :: blkRes p (.cells #[.slice p9 (t.keys.length - 1) q9, .slice (some ⟨g, 0, none⟩) ps.length cq] 91 (0, 0)) :: rowRes 31 2 (.slice p9 (t.keys.length - 1) q9) (t.keys.length - 1) (cellsE (t.keys.take i ++ t.keys.drop (i + 1))) :: blkRes qa (.cells #[.slice p5 (a.keys.length + 1 + b.keys.length) q5, .slice p7 (psa.length + psb.length) q7] 91 (0, 0)) :: rowRes 84 1 (.slice p7 (psa.length + psb.length) q7) (psa.length + psb.length) ((psa ++ psb).map ptrV) :: blkRes qb (.cells #[.slice kpb b.keys.length kqb, .slice cpb psb.length cqb] 91 (0, 0)) :: rowRes 31 2 (.slice p5 (a.keys.length + 1 + b.keys.length) q5) (a.keys.length + 1 + b.keys.length) (cellsE (a.keys ++ e :: b.keys)) :: rowRes 31 2 (.slice kpb b.keys.length kqb) (b.keys.length) (cellsE (b.keys)) :: rowRes 84 1 (.slice cpb psb.length cqb) (psb.length) ((psb).map ptrV) :: (List.zipWith (subRes h) psa a.kids ++ (List.zipWith (subRes h) psb b.kids ++ (List.zipWith (subRes (h + 1)) pa ca ++ (List.zipWith (subRes (h + 1)) pb cb ++ (l)))))) from hs10)
      clear HS33
      clear hs10
      have p1 : World.cell? (w10) ⟨p, 1, none⟩ = some (.slice (some ⟨g, 0, none⟩) ps.length cq) := cell_of_block (HS34.out.blkOf (g := p) (o := .cells #[.slice p9 (t.keys.length - 1) q9, .slice (some ⟨g, 0, none⟩) ps.length cq] 91 (0, 0)) (by simp)) 1 (v := .slice (some ⟨g, 0, none⟩) ps.length cq) rfl
      have fp1 : World.frozen? (w10) ⟨p, 1, none⟩ = false := free_of_block (HS34.out.blkOf (g := p) (o := .cells #[.slice p9 (t.keys.length - 1) q9, .slice (some ⟨g, 0, none⟩) ps.length cq] 91 (0, 0)) (by simp)) 1
      have HS35 := Lib.hid (show Sep w (World.setCell (w10) ⟨p, 1, none⟩ (.slice p10 (ps.length - 1) q10)) (blkRes p (.cells #[.slice p9 (t.keys.length - 1) q9, .slice p10 (ps.length - 1) q10] 91 (0, 0)) :: rowRes 84 1 (.slice p10 (ps.length - 1) q10) (ps.length - 1) ((ps.take (i + 1) ++ ps.drop (i + 1 + 1)).map ptrV) :: rowRes 31 2 (.slice p9 (t.keys.length - 1) q9) (t.keys.length - 1) (cellsE (t.keys.take i ++ t.keys.drop (i + 1))) :: blkRes qa (.cells #[.slice p5 (a.keys.length + 1 + b.keys.length) q5, .slice p7 (psa.length + psb.length) q7] 91 (0, 0)) :: rowRes 84 1 (.slice p7 (psa.length + psb.length) q7) (psa.length + psb.length) ((psa ++ psb).map ptrV) :: blkRes qb (.cells #[.slice kpb b.keys.length kqb, .slice cpb psb.length cqb] 91 (0, 0)) :: rowRes 31 2 (.slice p5 (a.keys.length + 1 + b.keys.length) q5) (a.keys.length + 1 + b.keys.length) (cellsE (a.keys ++ e :: b.keys)) :: rowRes 31 2 (.slice kpb b.keys.length kqb) (b.keys.length) (cellsE (b.keys)) :: rowRes 84 1 (.slice cpb psb.length cqb) (psb.length) ((psb).map ptrV) :: (List.zipWith (subRes h) psa a.kids ++ (List.zipWith (subRes h) psb b.kids ++ (List.zipWith (subRes (h + 1)) pa ca ++ (List.zipWith (subRes (h + 1)) pb cb ++ (l)))))) from (HS34.out.up1).store 1 (.slice p10 (ps.length - 1) q10))
      clear HS34
      have HS36 := Lib.hid (show Sep w (World.setCell (w10) ⟨p, 1, none⟩ (.slice p10 (ps.length - 1) q10)) (blkRes p (.cells #[.slice p9 (t.keys.length - 1) q9, .slice p10 (ps.length - 1) q10] 91 (0, 0)) :: rowRes 84 1 (.slice p10 (ps.length - 1) q10) (ps.length - 1) ((ps.take (i + 1) ++ ps.drop (i + 1 + 1)).map ptrV) :: rowRes 31 2 (.slice p9 (t.keys.length - 1) q9) (t.keys.length - 1) (cellsE (t.keys.take i ++ t.keys.drop (i + 1))) :: blkRes qa (.cells #[.slice p5 (a.keys.length + 1 + b.keys.length) q5, .slice p7 (psa.length + psb.length) q7] 91 (0, 0)) :: rowRes 84 1 (.slice p7 (psa.length + psb.length) q7) (psa.length + psb.length) ((psa ++ psb).map ptrV) :: rowRes 31 2 (.slice p5 (a.keys.length + 1 + b.keys.length) q5) (a.keys.length + 1 + b.keys.length) (cellsE (a.keys ++ e :: b.keys)) :: rowRes 31 2 (.slice kpb b.keys.length kqb) (b.keys.length) (cellsE (b.keys)) :: rowRes 84 1 (.slice cpb psb.length cqb) (psb.length) ((psb).map ptrV) :: (List.zipWith (subRes h) psa a.kids ++ (List.zipWith (subRes h) psb b.kids ++ (List.zipWith (subRes (h + 1)) pa ca ++ (List.zipWith (subRes (h + 1)) pb cb ++ (l)))))) from (HS35.out.reorder (l' := blkRes qb (.cells #[.slice kpb b.keys.length kqb, .slice cpb psb.length cqb] 91 (0, 0)) :: blkRes p (.cells #[.slice p9 (t.keys.length - 1) q9, .slice p10 (ps.length - 1) q10] 91 (0, 0)) :: rowRes 84 1 (.slice p10 (ps.length - 1) q10) (ps.length - 1) ((ps.take (i + 1) ++ ps.drop (i + 1 + 1)).map ptrV) :: rowRes 31 2 (.slice p9 (t.keys.length - 1) q9) (t.keys.length - 1) (cellsE (t.keys.take i ++ t.keys.drop (i + 1))) :: blkRes qa (.cells #[.slice p5 (a.keys.length + 1 + b.keys.length) q5, .slice p7 (psa.length + psb.length) q7] 91 (0, 0)) :: rowRes 84 1 (.slice p7 (psa.length + psb.length) q7) (psa.length + psb.length) ((psa ++ psb).map ptrV) :: rowRes 31 2 (.slice p5 (a.keys.length + 1 + b.keys.length) q5) (a.keys.length + 1 + b.keys.length) (cellsE (a.keys ++ e :: b.keys)) :: rowRes 31 2 (.slice kpb b.keys.length kqb) (b.keys.length) (cellsE (b.keys)) :: rowRes 84 1 (.slice cpb psb.length cqb) (psb.length) ((psb).map ptrV) :: (List.zipWith (subRes h) psa a.kids ++ (List.zipWith (subRes h) psb b.kids ++ (List.zipWith (subRes (h + 1)) pa ca ++ (List.zipWith (subRes (h + 1)) pb cb ++ (l)))))) (by (intro x; simp only [List.count_append, List.count_cons, List.count_nil, List.cons_append, List.nil_append, List.append_assoc]; omega))).tail)
      clear HS35
      have HS37 := Lib.hid (show Sep w (World.setCell (w10) ⟨p, 1, none⟩ (.slice p10 (ps.length - 1) q10)) (blkRes p (.cells #[.slice p9 (t.keys.length - 1) q9, .slice p10 (ps.length - 1) q10] 91 (0, 0)) :: rowRes 84 1 (.slice p10 (ps.length - 1) q10) (ps.length - 1) ((ps.take (i + 1) ++ ps.drop (i + 1 + 1)).map ptrV) :: rowRes 31 2 (.slice p9 (t.keys.length - 1) q9) (t.keys.length - 1) (cellsE (t.keys.take i ++ t.keys.drop (i + 1))) :: blkRes qa (.cells #[.slice p5 (a.keys.length + 1 + b.keys.length) q5, .slice p7 (psa.length + psb.length) q7] 91 (0, 0)) :: rowRes 84 1 (.slice p7 (psa.length + psb.length) q7) (psa.length + psb.length) ((psa ++ psb).map ptrV) :: rowRes 31 2 (.slice p5 (a.keys.length + 1 + b.keys.length) q5) (a.keys.length + 1 + b.keys.length) (cellsE (a.keys ++ e :: b.keys)) :: rowRes 84 1 (.slice cpb psb.length cqb) (psb.length) ((psb).map ptrV) :: (List.zipWith (subRes h) psa a.kids ++ (List.zipWith (subRes h) psb b.kids ++ (List.zipWith (subRes (h + 1)) pa ca ++ (List.zipWith (subRes (h + 1)) pb cb ++ (l)))))) from (HS36.out.reorder (l' := rowRes 31 2 (.slice kpb b.keys.length kqb) (b.keys.length) (cellsE (b.keys)) :: blkRes p (.cells #[.slice p9 (t.keys.length - 1) q9, .slice p10 (ps.length - 1) q10] 91 (0, 0)) :: rowRes 84 1 (.slice p10 (ps.length - 1) q10) (ps.length - 1) ((ps.take (i + 1) ++ ps.drop (i + 1 + 1)).map ptrV) :: rowRes 31 2 (.slice p9 (t.keys.length - 1) q9) (t.keys.length - 1) (cellsE (t.keys.take i ++ t.keys.drop (i + 1))) :: blkRes qa (.cells #[.slice p5 (a.keys.length + 1 + b.keys.length) q5, .slice p7 (psa.length + psb.length) q7] 91 (0, 0)) :: rowRes 84 1 (.slice p7 (psa.length + psb.length) q7) (psa.length + psb.length) ((psa ++ psb).map ptrV) :: rowRes 31 2 (.slice p5 (a.keys.length + 1 + b.keys.length) q5) (a.keys.length + 1 + b.keys.length) (cellsE (a.keys ++ e :: b.keys)) :: rowRes 84 1 (.slice cpb psb.length cqb) (psb.length) ((psb).map ptrV) :: (List.zipWith (subRes h) psa a.kids ++ (List.zipWith (subRes h) psb b.kids ++ (List.zipWith (subRes (h + 1)) pa ca ++ (List.zipWith (subRes (h + 1)) pb cb ++ (l)))))) (by (intro x; simp only [List.count_append, List.count_cons, List.count_nil, List.cons_append, List.nil_append, List.append_assoc]; omega))).tail)
      clear HS36
      have HS38 := Lib.hid (show Sep w (World.setCell (w10) ⟨p, 1, none⟩ (.slice p10 (ps.length - 1) q10)) (blkRes p (.cells #[.slice p9 (t.keys.length - 1) q9, .slice p10 (ps.length - 1) q10] 91 (0, 0)) :: rowRes 84 1 (.slice p10 (ps.length - 1) q10) (ps.length - 1) ((ps.take (i + 1) ++ ps.drop (i + 1 + 1)).map ptrV) :: rowRes 31 2 (.slice p9 (t.keys.length - 1) q9) (t.keys.length - 1) (cellsE (t.keys.take i ++ t.keys.drop (i + 1))) :: blkRes qa (.cells #[.slice p5 (a.keys.length + 1 + b.keys.length) q5, .slice p7 (psa.length + psb.length) q7] 91 (0, 0)) :: rowRes 84 1 (.slice p7 (psa.length + psb.length) q7) (psa.length + psb.length) ((psa ++ psb).map ptrV) :: rowRes 31 2 (.slice p5 (a.keys.length + 1 + b.keys.length) q5) (a.keys.length + 1 + b.keys.length) (cellsE (a.keys ++ e :: b.keys)) :: (List.zipWith (subRes h) psa a.kids ++ (List.zipWith (subRes h) psb b.kids ++ (List.zipWith (subRes (h + 1)) pa ca ++ (List.zipWith (subRes (h + 1)) pb cb ++ (l)))))) from (HS37.out.reorder (l' := rowRes 84 1 (.slice cpb psb.length cqb) (psb.length) ((psb).map ptrV) :: blkRes p (.cells #[.slice p9 (t.keys.length - 1) q9, .slice p10 (ps.length - 1) q10] 91 (0, 0)) :: rowRes 84 1 (.slice p10 (ps.length - 1) q10) (ps.length - 1) ((ps.take (i + 1) ++ ps.drop (i + 1 + 1)).map ptrV) :: rowRes 31 2 (.slice p9 (t.keys.length - 1) q9) (t.keys.length - 1) (cellsE (t.keys.take i ++ t.keys.drop (i + 1))) :: blkRes qa (.cells #[.slice p5 (a.keys.length + 1 + b.keys.length) q5, .slice p7 (psa.length + psb.length) q7] 91 (0, 0)) :: rowRes 84 1 (.slice p7 (psa.length + psb.length) q7) (psa.length + psb.length) ((psa ++ psb).map ptrV) :: rowRes 31 2 (.slice p5 (a.keys.length + 1 + b.keys.length) q5) (a.keys.length + 1 + b.keys.length) (cellsE (a.keys ++ e :: b.keys)) :: (List.zipWith (subRes h) psa a.kids ++ (List.zipWith (subRes h) psb b.kids ++ (List.zipWith (subRes (h + 1)) pa ca ++ (List.zipWith (subRes (h + 1)) pb cb ++ (l)))))) (by (intro x; simp only [List.count_append, List.count_cons, List.count_nil, List.cons_append, List.nil_append, List.append_assoc]; omega))).tail)
      clear HS37
      go_wp2_with fail
      go_end0
      refine ⟨rfl, ?_⟩
      have hca : t.kids[i]! = a := by rw [HT.out]; exact get_mid HI.out
      have hcb : t.kids[i + 1]! = b := by
        rw [HT.out, show ca ++ a :: b :: cb = (ca ++ [a]) ++ b :: cb by simp]
        exact get_mid (by have := HI.out; simp; omega)
      have hke : t.keys[i]! = e := by rw [HK.out]; exact get_mid HKI.out
      have hpai : pa.length = i := HPA.out.trans HI.out
      have hgl : glueT t i = .nd (t.keys.take i ++ t.keys.drop (i + 1)) (ca ++ joinT a e b :: cb) := by
        unfold glueT
        rw [hca, hcb, hke, HT.out, take_mid HI.out, show ca ++ a :: b :: cb = (ca ++ [a]) ++ b :: cb by simp, show i + 2 = (i + 1) + 1 by omega, drop_mid1 (by have := HI.out; simp; omega)]
      have hps2 : ps.take (i + 1) ++ ps.drop (i + 1 + 1) = pa ++ qa :: pb := by
        rw [HPS.out, show pa ++ qa :: qb :: pb = (pa ++ [qa]) ++ qb :: pb by simp, take_mid (by simp; omega), drop_mid1 (by simp; omega)]
        simp
      rw [hgl]
      refine Sep.shutOne (kv := .slice p9 (t.keys.length - 1) q9) (cv := .slice p10 (ps.length - 1) q10) (kva := .slice p5 (a.keys.length + 1 + b.keys.length) q5) (cva := .slice p7 (psa.length + psb.length) q7) (n := t.keys.length - 1) (m := ps.length - 1) (na := a.keys.length + 1 + b.keys.length) (ma := psa.length + psb.length) (a := joinT a e b) (ps := ps.take (i + 1) ++ ps.drop (i + 1 + 1)) (pa := pa) (pb := pb) (psa := psa ++ psb) (qa := qa) ?_ ?_ hps2 HPA.out HPB.out ?_ ?_ ?_ (HS38.out.reorder ?_)
      · simp only [List.length_append, List.length_take, List.length_drop]; omega
      · simp only [List.length_append, List.length_take, List.length_drop]; omega
      · unfold joinT; simp only [T.keys_nd, List.length_append, List.length_cons]; omega
      · simp
      · unfold joinT; have := HPLA.out; have := HPLB.out; simp only [T.kids_nd, List.length_append]; omega
      · unfold joinT
        rw [T.kids_nd, T.keys_nd, List.zipWith_append HPLA.out]
        (intro x; simp only [List.count_append, List.count_cons, List.count_nil, List.cons_append, List.nil_append, List.append_assoc]; omega)

end Go.Proofs.Ytpaffpiaoanegaa
