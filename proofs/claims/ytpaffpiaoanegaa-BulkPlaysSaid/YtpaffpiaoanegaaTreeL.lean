/-
  What is proved here: a key put beneath a node ((*node).put of package tree).
  No condition: each lemma names its own.
-/
import Derived.Test.YtpaffpiaoanegaaTreeK
set_option linter.unusedVariables false
set_option linter.unusedSimpArgs false
namespace Go.Proofs.Ytpaffpiaoanegaa
open Go.RowKit

theorem cellsE_set (l : List E) (i : Nat) (e : E) : ((cellsE l).set (i * 2) (.string e.1)).set (i * 2 + 1) (.int .i64 e.2) = cellsE (l.set i e) := by
  induction l generalizing i with
  | nil => simp [cellsE]
  | cons x l ih =>
    cases i with
    | zero => rfl
    | succ i =>
      rw [show (i + 1) * 2 = i * 2 + 2 by omega]
      exact congrArg (fun z => Value.string x.1 :: Value.int .i64 x.2 :: z) (ih i)

set_option maxRecDepth 100000 in
set_option maxHeartbeats 2000000 in
theorem put_found {fan : Nat} (hf64 : fan ≤ 64) (e : E) {h p : Nat} {t : T} {w W : World} {l : List Res} (hs : Sep w W (nodeRes h p t :: l)) (hks : Sorted t.keys) (hlt : t.keys.length < fan) (hh : here t.keys e.1 = true) :
    Calls Try.prog 37 #[.pointer (some ⟨p, 0, none⟩), .int .i64 fan, .agg #[.string e.1, .int .i64 e.2]] W fun r W' => r = .returned (.bool false) ∧ Sep w W' (nodeRes h p (.nd (t.keys.set (below t.keys e.1) e) t.kids) :: l) := by
  have hsA := hs.alloc #[.string e.1, .int .i64 e.2] 31
  have hs1 := hsA.up1
  have b0 := cell_of_block hsA.blk 0 (v := .string e.1) rfl
  have bb := hsA.blk
  have HN := Lib.hid hs1.node
  have HS := Lib.hid hs1
  have HKS := Lib.hid hks
  obtain ⟨A, k, B, hl1, hl2, hl3⟩ := kd_of_here hh
  have hib : below t.keys e.1 < t.keys.length := by rw [← hl2, hl1]; simp
  have hke : t.keys[below t.keys e.1]? = some k := by rw [← hl2, hl1, List.getElem?_append_right (Nat.le_refl _), Nat.sub_self]; rfl
  have HKE := Lib.hid hke
  have HBB := Lib.hid bb
  clear hs hsA hs1 hks hl1 hl2 hl3 hke bb
  go_enter Try.func37, Try.ntmps37
  go_wp2_with fail
  refine (find_any HN.out (by omega) HKS.out e.1).mono ?_
  rintro r w1 ⟨rfl, o1⟩
  obtain ⟨kp, kq, cp, cq, ps, hpl, hs2⟩ := (HS.out.only o1).nodeOpen
  have rK := hs2.rowOf (e := 31) (size := 2) (v := .slice kp t.keys.length kq) (n := t.keys.length) (xs := cellsE t.keys) (by simp)
  obtain ⟨g, rfl, c0, c1⟩ := keyCells rK HKE.out
  have bp := hs2.blk
  have p0 := cell_of_block bp 0 (v := .slice (some ⟨g, 0, none⟩) t.keys.length kq) rfl
  have be := o1.keeps HBB.out (by simp)
  have b0 := cell_of_block be 0 (v := .string e.1) rfl
  have b1 := cell_of_block be 1 (v := .int .i64 e.2) rfl
  have fz0 := (hs2.up1.rowCell (cellsE_get HKE.out).1).2
  have fz1 := (hs2.up1.rowCell (cellsE_get HKE.out).2).2
  rw [hh]
  obtain ⟨i, hi⟩ : ∃ i, i = below t.keys e.1 := ⟨_, rfl⟩
  rw [← hi] at c0 c1 fz0 fz1 hib ⊢
  have HI := Lib.hid hi
  have hs3 := (((hs2.up1).rowStore (i * 2) (.string e.1)).rowStore (i * 2 + 1) (.int .i64 e.2))
  rw [cellsE_set] at hs3
  have hs4 := hs3.up1
  have HF : Hid (Sep w ((w1.setCell ⟨g, i * 2, none⟩ (.string e.1)).setCell ⟨g, i * 2 + 1, none⟩ (.int .i64 e.2)) (nodeRes h p (.nd (t.keys.set i e) t.kids) :: l)) := by
    have h5 := Sep.nodeShut2 (h := h) (p := p) (t := .nd (t.keys.set i e) t.kids) (ps := ps) (l := blkRes W.heap.size (.cells #[.string e.1, .int .i64 e.2] 31 (0, 0)) :: l) (by rw [T.keys_nd, List.length_set]) rfl hpl hs4
    exact h5.up1.tail
  clear hs2 hs3 hs4 rK bp be hi o1
  have mixed : Try.prog.follows .mixedOrders = true := by kernel_rfl
  go_wp2_with fail
  go_region
  all_goals
    go_wp2_with fail
    go_ret
    exact ⟨rfl, by rw [← HI.out]; exact HF.out.drew⟩

set_option maxRecDepth 100000 in
set_option maxHeartbeats 2000000 in
theorem put_leaf {fan : Nat} (hf64 : fan ≤ 64) (e : E) {p : Nat} {t : T} {w W : World} {l : List Res} (hs : Sep w W (nodeRes 0 p t :: l)) (hk : t.kids = []) (hks : Sorted t.keys) (hlt : t.keys.length < fan) (hh : here t.keys e.1 = false) :
    Calls Try.prog 37 #[.pointer (some ⟨p, 0, none⟩), .int .i64 fan, .agg #[.string e.1, .int .i64 e.2]] W fun r W' => r = .returned (.bool true) ∧ Sep w W' (nodeRes 0 p (.nd (t.keys.take (below t.keys e.1) ++ e :: t.keys.drop (below t.keys e.1)) t.kids) :: l) := by
  have hsA := hs.alloc #[.string e.1, .int .i64 e.2] 31
  have hs1 := hsA.up1
  have b0 := cell_of_block hsA.blk 0 (v := .string e.1) rfl
  have bb := hsA.blk
  have HN := Lib.hid hs1.node
  have HS := Lib.hid hs1
  have HKS := Lib.hid hks
  have HBB := Lib.hid bb
  clear hs hsA hs1 hks bb
  go_enter Try.func37, Try.ntmps37
  go_wp2_with fail
  refine (find_any HN.out (by omega) HKS.out e.1).mono ?_
  rintro r w1 ⟨rfl, o1⟩
  obtain ⟨kp, kq, cp, cq, ps, hpl, hs2⟩ := (HS.out.only o1).nodeOpen
  have hp0 : ps.length = 0 := by rw [hpl, hk]; rfl
  have bp := hs2.blk
  have p0 := cell_of_block bp 0 (v := .slice kp t.keys.length kq) rfl
  have p1 := cell_of_block bp 1 (v := .slice cp ps.length cq) rfl
  have be := o1.keeps HBB.out (by simp)
  have b0 := cell_of_block be 0 (v := .string e.1) rfl
  have b1 := cell_of_block be 1 (v := .int .i64 e.2) rfl
  rw [hh]
  rw [hp0] at p1
  have HPL := Lib.hid hpl
  obtain ⟨i, hi⟩ : ∃ i, i = below t.keys e.1 := ⟨_, rfl⟩
  have hib : i ≤ t.keys.length := by rw [hi]; exact below_le _ _
  rw [← hi]
  have HI := Lib.hid hi
  have HS2 := Lib.hid hs2
  clear hs2 bp be hi o1 hpl hp0
  have mixed : Try.prog.follows .mixedOrders = true := by kernel_rfl
  go_wp2_with fail
  have p0a : (w1.alloc (.cells #[.string e.1, .int .i64 e.2] 31)).cell? ⟨p, 0, none⟩ = some (.slice kp t.keys.length kq) := Lib.cell?_alloc_some _ p0
  have hins := ins_ent (W := w1.drew) i #[.string e.1, .int .i64 e.2] rfl (by intro u hu; simp at hu; rcases hu with h | h <;> subst h <;> rfl) (cellsE_one _) hib (by omega) (HS2.out.up1.drew)
  rw [ins_cells] at hins
  have HINS := Lib.hid hins; clear hins
  go_region_with ((go_at_call 46; refine (HINS.out).mono ?_; rintro r w4 ⟨p4, q4, rfl, hs4⟩; have hs5 := hs4.up1; have x0 := cell_of_block hs5.blk 0 (v := .slice kp t.keys.length kq) rfl; have fx := free_of_block hs5.blk 0; have HS5 := Lib.hid hs5; clear hs4 hs5))
  all_goals
    have HF := Lib.hid (HS5.out.store 0 (.slice p4 (t.keys.length + 1) q4))
    go_wp2_with fail
    go_ret
    refine ⟨rfl, ?_⟩
    rw [← HI.out]
    have h6 := Sep.nodeShut2 (h := 0) (p := p) (t := .nd (t.keys.take i ++ e :: t.keys.drop i) t.kids) (ps := ps) (l := blkRes W.heap.size (.cells #[.string e.1, .int .i64 e.2] 31 (0, 0)) :: l) (by simp only [T.keys_nd, List.length_append, List.length_cons, List.length_take, List.length_drop]; omega) rfl HPL.out HF.out
    exact h6.up1.tail

set_option maxRecDepth 100000 in
set_option maxHeartbeats 2000000 in
theorem put_inner {fan : Nat} (hf3 : 3 ≤ fan) (hf64 : fan ≤ 64) (e : E) {h p : Nat} {t : T} {w W : World} {l : List Res} (hs : Sep w W (nodeRes (h + 1) p t :: l)) (hk : Kd fan (h + 1) t) (hso : Sorted (toL (h + 1) t)) (hlt : t.keys.length < fan) (hh : here t.keys e.1 = false)
    (ih : ∀ (p : Nat) (t : T) (w W : World) (l : List Res), Sep w W (nodeRes h p t :: l) → Kd fan h t → Sorted (toL h t) → t.keys.length < fan →
      Calls Try.prog 37 #[.pointer (some ⟨p, 0, none⟩), .int .i64 fan, .agg #[.string e.1, .int .i64 e.2]] W fun r W' => r = .returned (.bool (putT fan h t e).2) ∧ Sep w W' (nodeRes h p (putT fan h t e).1 :: l)) :
    Calls Try.prog 37 #[.pointer (some ⟨p, 0, none⟩), .int .i64 fan, .agg #[.string e.1, .int .i64 e.2]] W fun r W' => r = .returned (.bool (putT fan (h + 1) t e).2) ∧ Sep w W' (nodeRes (h + 1) p (putT fan (h + 1) t e).1 :: l) := by
  have hks : Sorted t.keys := hso.sublist hk.keys
  obtain ⟨ka, kb, ca, c, cb, ht, e1, e2, e3, e4, e5, e6, e7, e8, e9⟩ := hk.at_ hso e.1
  have hcl : t.kids = ca ++ c :: cb := by rw [ht]; rfl
  have hc0 : t.kids[below t.keys e.1]! = c := by rw [← e1, hcl]; exact get_mid (by omega)
  have hcs : Sorted (toL h c) := by
    rw [e4] at hso
    exact (List.pairwise_append.1 (List.pairwise_append.1 hso).2.1).1
  have hput : putT fan (h + 1) t e = (if (putT fan h c e).1.keys.length = fan then splitT (.nd t.keys (t.kids.set (below t.keys e.1) (putT fan h c e).1)) (below t.keys e.1) else .nd t.keys (t.kids.set (below t.keys e.1) (putT fan h c e).1), (putT fan h c e).2) := by
    rw [putT, if_neg (by rw [hh]; decide), hc0]
  obtain ⟨q1, q2, q3, q4, q5⟩ := putT_ok hf3 e h c e7 hcs e9
  have hkl := hk.1
  have hsA := hs.alloc #[.string e.1, .int .i64 e.2] 31
  have hs1 := hsA.up1
  have b0 := cell_of_block hsA.blk 0 (v := .string e.1) rfl
  have bb := hsA.blk
  have HN := Lib.hid hs1.node
  have HS := Lib.hid hs1
  have HKS := Lib.hid hks
  have HBB := Lib.hid bb
  rw [hput]
  have hset : ∀ c', t.kids.set (below t.keys e.1) c' = ca ++ c' :: cb := fun c' => by rw [hcl]; exact set_mid e2
  rw [hset]
  have hbl := below_le t.keys e.1
  have IH := Lib.hid (fun (W' : World) (l' : List Res) (hq : ∃ q, Sep w W' (nodeRes h q c :: l')) => trivial)
  have IHC := Lib.hid (fun (q : Nat) (W' : World) (l' : List Res) (hq : Sep w W' (nodeRes h q c :: l')) => ih q c w W' l' hq e7 hcs e9)
  generalize putT fan h c e = r at *
  obtain ⟨c', b⟩ := r
  simp only at q1 q2 q3 q4 q5 IHC ⊢
  have HQ3 := Lib.hid q3
  have HCL := Lib.hid hcl
  have HE2 := Lib.hid e2
  have HE3 := Lib.hid e3
  clear hs hsA hs1 hks bb ht hcl hc0 hcs hput hset e4 e5 e6 e7 q1 q2 q3 ih hso IH
  go_enter Try.func37, Try.ntmps37
  go_wp2_with fail
  refine (find_any HN.out (by omega) HKS.out e.1).mono ?_
  rintro r w1 ⟨rfl, o1⟩
  obtain ⟨kp, kq, cp, cq, ps, hpl, hs2⟩ := (HS.out.only o1).nodeOpen
  have hpl' := hpl
  rw [HCL.out] at hs2 hpl'
  obtain ⟨pa, q, pb, hps, hpa, hpb, hz⟩ := zip_cut (f := subRes (h + 1)) hpl'
  rw [hz] at hs2
  have hpsl : 0 < ps.length := by rw [hps]; simp only [List.length_append, List.length_cons]; omega
  have bp := hs2.blk
  have rP := hs2.rowOf (e := 84) (size := 1) (v := .slice cp ps.length cq) (n := ps.length) (xs := ps.map ptrV) (by simp)
  obtain ⟨i, hi⟩ : ∃ i, i = below t.keys e.1 := ⟨_, rfl⟩
  obtain ⟨g, rfl, c1⟩ := kid_cell rP (i := i) (q := q) (by rw [hps, List.getElem?_append_right (by rw [hpa, HE2.out, hi]; exact Nat.le_refl _), hpa, HE2.out, hi, Nat.sub_self]; rfl)
  have p1 := cell_of_block bp 1 (v := .slice (some ⟨g, 0, none⟩) ps.length cq) rfl
  have be := o1.keeps HBB.out (by simp)
  have b0 := cell_of_block be 0 (v := .string e.1) rfl
  have b1 := cell_of_block be 1 (v := .int .i64 e.2) rfl
  rw [hh]
  have hil : i < ps.length := by rw [hps, hi, ← HE2.out, ← hpa]; simp
  rw [← hi]
  have HI := Lib.hid hi
  have HC0 := Lib.hid (IHC.out q w1.drew _ ((hs2.reorder (l' := nodeRes h q c :: (blkRes p (.cells #[.slice kp t.keys.length kq, .slice (some ⟨g, 0, none⟩) ps.length cq] 91 (0, 0)) :: rowRes 31 2 (.slice kp t.keys.length kq) t.keys.length (cellsE t.keys) ::
      rowRes 84 1 (.slice (some ⟨g, 0, none⟩) ps.length cq) ps.length (ps.map ptrV) :: (List.zipWith (subRes (h + 1)) pa ca ++ (List.zipWith (subRes (h + 1)) pb cb ++ blkRes W.heap.size (.cells #[.string e.1, .int .i64 e.2] 31 (0, 0)) :: l)))) (by rw [show subRes (h + 1) q c = nodeRes h q c from rfl]; (intro x; simp only [List.count_append, List.count_cons, List.count_nil, List.cons_append, List.nil_append, List.append_assoc]; omega))).drew))
  have HPS := Lib.hid hps
  have HPL := Lib.hid hpl
  have HPA := Lib.hid hpa
  have HPB := Lib.hid hpb
  clear hs2 bp rP be hi o1 hps hpl hpl' hpa hpb hz
  have mixed : Try.prog.follows .mixedOrders = true := by kernel_rfl
  go_wp2_with fail
  go_region_with ((go_at_call 37; refine (HC0.out).mono ?_; rintro r w4 ⟨rfl, hs4⟩; have HS4 := Lib.hid hs4; clear hs4))
  all_goals
    have hsP : Sep w w4 (nodeRes (h + 1) p (.nd t.keys (ca ++ c' :: cb)) :: l) := by
      have h6 := Sep.nodeShut (h := h + 1) (p := p) (t := .nd t.keys (ca ++ c' :: cb)) (ps := ps) (kv := .slice kp t.keys.length kq) (cv := .slice (some ⟨g, 0, none⟩) ps.length cq) (l := blkRes W.heap.size (.cells #[.string e.1, .int .i64 e.2] 31 (0, 0)) :: l)
        (by rw [HPL.out, HCL.out, T.kids_nd]; simp) (HS4.out.reorder (by
          have hzz : List.zipWith (subRes (h + 1)) ps (ca ++ c' :: cb) = List.zipWith (subRes (h + 1)) pa ca ++ nodeRes h q c' :: List.zipWith (subRes (h + 1)) pb cb := by
            rw [HPS.out, List.zipWith_append HPA.out]; rfl
          rw [T.kids_nd, T.keys_nd, hzz]
          (intro x; simp only [List.count_append, List.count_cons, List.count_nil, List.cons_append, List.nil_append, List.append_assoc]; omega)))
      exact h6.up1.tail
    have HP := Lib.hid hsP; clear hsP
    obtain ⟨kp2, kq2, cp2, cq2, ps2, hpl2, hs6⟩ := HS4.out.nodeOpen
    have q0 := cell_of_block hs6.blk 0 (v := .slice kp2 c'.keys.length kq2) rfl
    have p1n := cell_of_block (hs6.blkOf (g := p) (o := .cells #[.slice kp t.keys.length kq, .slice (some ⟨g, 0, none⟩) ps.length cq] 91 (0, 0)) (by simp)) 1 (v := .slice (some ⟨g, 0, none⟩) ps.length cq) rfl
    have rPn := hs6.rowOf (e := 84) (size := 1) (v := .slice (some ⟨g, 0, none⟩) ps.length cq) (n := ps.length) (xs := ps.map ptrV) (by simp)
    have hqi : ps[i]? = some q := by
      rw [HPS.out, List.getElem?_append_right (by rw [HPA.out, HE2.out, HI.out]; exact Nat.le_refl _), HPA.out, HE2.out, HI.out, Nat.sub_self]; rfl
    obtain ⟨g', he', c1n⟩ := kid_cell rPn hqi
    cases he'
    clear hs6 rPn hqi hpl2 HS4
    by_cases hfn : c'.keys.length = fan
    · have hfn' : (c'.keys.length : Int) = (fan : Int) := by omega
      go_wp2_with fail
      refine (split_any (c := c') HP.out rfl (by rw [HE2.out, HI.out]) (by rw [HI.out, T.keys_nd]; exact hbl) HQ3.out (by omega) (by omega) (by rw [T.keys_nd]; omega) (by rw [T.kids_nd, ← show t.kids.length = (ca ++ c' :: cb).length from by rw [HCL.out]; simp]; omega)).mono ?_
      rintro r w5 ⟨rfl, hs7⟩
      have HF := Lib.hid hs7; clear hs7
      go_wp2_with fail
      go_ret
      refine ⟨rfl, ?_⟩
      rw [← HI.out]
      exact HF.out
    · have hfn' : ¬ ((c'.keys.length : Int) = (fan : Int)) := by omega
      go_wp2_with fail
      go_ret
      refine ⟨rfl, ?_⟩
      exact HP.out

/-- (*node).put: the key put beneath a node. -/
theorem put_any {fan : Nat} (hf3 : 3 ≤ fan) (hf64 : fan ≤ 64) (e : E) : ∀ (h p : Nat) (t : T) (w W : World) (l : List Res), Sep w W (nodeRes h p t :: l) → Kd fan h t → Sorted (toL h t) → t.keys.length < fan →
    Calls Try.prog 37 #[.pointer (some ⟨p, 0, none⟩), .int .i64 fan, .agg #[.string e.1, .int .i64 e.2]] W fun r W' => r = .returned (.bool (putT fan h t e).2) ∧ Sep w W' (nodeRes h p (putT fan h t e).1 :: l) := by
  intro h
  induction h with
  | zero =>
    intro p t w W l hs hk hso hlt
    have hks : Sorted t.keys := hso.sublist hk.keys
    by_cases hh : here t.keys e.1 = true
    · rw [putT, if_pos hh]
      exact put_found hf64 e hs hks hlt hh
    · rw [putT, if_neg hh]
      exact put_leaf hf64 e hs hk hks hlt (by simpa using hh)
  | succ h ih =>
    intro p t w W l hs hk hso hlt
    have hks : Sorted t.keys := hso.sublist hk.keys
    by_cases hh : here t.keys e.1 = true
    · rw [putT, if_pos hh]
      exact put_found hf64 e hs hks hlt hh
    · exact put_inner hf3 hf64 e hs hk hso hlt (by simpa using hh) ih

end Go.Proofs.Ytpaffpiaoanegaa
