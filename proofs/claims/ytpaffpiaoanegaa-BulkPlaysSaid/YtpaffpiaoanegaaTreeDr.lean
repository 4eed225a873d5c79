/-
  What is proved here: a key taken away beneath a node ((*node).drop of package tree).
  No condition: each lemma names its own.
-/
import Derived.Test.YtpaffpiaoanegaaTreeFa
import Derived.Test.YtpaffpiaoanegaaTreeO
import Derived.Test.YtpaffpiaoanegaaTreeQ
set_option linter.unusedVariables false
set_option linter.unusedSimpArgs false
namespace Go.Proofs.Ytpaffpiaoanegaa
open Go.RowKit

theorem here_get' {L : List E} {key : ByteArray} (h : here L key = true) : below L key < L.length := by
  obtain ⟨A, k, B, h1, h2, h3⟩ := kd_of_here h
  rw [← h2]; conv => rhs; rw [h1]
  simp

set_option maxRecDepth 100000 in
set_option maxHeartbeats 2000000 in
theorem drop_leaf {w W : World} {l : List Res} {p : Nat} {t : T} (lst : Nat) (key : ByteArray) (hs : Sep w W (nodeRes 0 p t :: l)) (hk : t.kids = []) (hks : Sorted t.keys) (hlt : t.keys.length ≤ 64) :
    Calls Try.prog 36 #[.pointer (some ⟨p, 0, none⟩), .string key, .int .i64 lst] W fun r W' => r = .returned (.bool (dropT lst 0 key t).2) ∧ Sep w W' (nodeRes 0 p (dropT lst 0 key t).1 :: l) := by
  have HN := Lib.hid hs.node
  have HS := Lib.hid hs
  have HKS := Lib.hid hks
  have HK := Lib.hid hk
  clear hs hks hk
  go_enter Try.func36, Try.ntmps36
  go_wp2_with fail
  refine (find_any HN.out (by omega) HKS.out key).mono ?_
  rintro r w1 ⟨rfl, o1⟩
  have HSW := Lib.hid (HS.out.only o1)
  obtain ⟨kp, kq, cp, cq, ps, hpl, hs2⟩ := HSW.out.nodeOpen
  have hp0 : ps.length = 0 := by rw [hpl, HK.out]; rfl
  have p0 := cell_of_block hs2.blk 0 (v := .slice kp t.keys.length kq) rfl
  have p1 := cell_of_block hs2.blk 1 (v := .slice cp ps.length cq) rfl
  rw [hp0] at p1
  have HPL := Lib.hid hpl
  by_cases hh : here t.keys key = true
  · have hib : below t.keys key < t.keys.length := (here_get' hh)
    have HD := Lib.hid (show dropT lst 0 key t = (.nd (t.keys.take (below t.keys key) ++ t.keys.drop (below t.keys key + 1)) t.kids, true) from by rw [dropT, if_pos hh])
    rw [hh]
    obtain ⟨i, hi⟩ : ∃ i, i = below t.keys key := ⟨_, rfl⟩
    rw [← hi] at hib HD ⊢
    have hw1 : IntKind.i64.wrap ((i : Int) + 1) = (i : Int) + 1 := IntWalk.i64_in _ (by omega)
    have hdel := del_ent i (cellsE_one _) hib (by omega) hs2.up1
    rw [cellsE_take, cellsE_drop, ← cellsE_append] at hdel
    have HDEL := Lib.hid hdel
    clear hdel hs2 hi hpl hp0 o1
    go_wp2_with fail
    refine HDEL.out.mono ?_
    rintro r w4 ⟨p4, q4, rfl, hs4⟩
    have hs5 := hs4.up1
    have x0 := cell_of_block hs5.blk 0 (v := .slice kp t.keys.length kq) rfl
    have f0 := free_of_block hs5.blk 0
    have HF := Lib.hid (hs5.store 0 (.slice p4 (t.keys.length - 1) q4))
    clear hs4 hs5 HDEL p0 p1
    go_wp2_with fail
    go_ret
    refine ⟨by rw [HD.out]; rfl, ?_⟩
    rw [HD.out]
    exact Sep.nodeShut2 (h := 0) (p := p) (t := .nd (t.keys.take i ++ t.keys.drop (i + 1)) t.kids) (ps := ps) (by simp only [T.keys_nd, List.length_append, List.length_take, List.length_drop]; omega) rfl HPL.out HF.out
  · have hh' : here t.keys key = false := by simpa using hh
    have HD := Lib.hid (show dropT lst 0 key t = (t, false) from by rw [dropT, if_neg hh])
    rw [hh']
    clear hs2 hpl hp0 o1
    go_wp2_with fail
    go_ret
    refine ⟨by rw [HD.out]; rfl, ?_⟩
    rw [HD.out]
    exact HSW.out

set_option maxRecDepth 100000 in
set_option maxHeartbeats 8000000 in
theorem drop_inner {fan : Nat} (hf3 : 3 ≤ fan) (hf64 : fan ≤ 64) (key : ByteArray) {h p : Nat} {t : T} {w W : World} {l : List Res} (hs : Sep w W (nodeRes (h + 1) p t :: l)) (hk : Kd fan (h + 1) t) (hso : Sorted (toL (h + 1) t)) (hone : 1 ≤ t.keys.length) (hlt : t.keys.length < fan)
    (ih : ∀ (key : ByteArray) (p : Nat) (t : T) (w W : World) (l : List Res), Sep w W (nodeRes h p t :: l) → Kd fan h t → Sorted (toL h t) → 1 ≤ t.keys.length → t.keys.length < fan →
      Calls Try.prog 36 #[.pointer (some ⟨p, 0, none⟩), .string key, .int .i64 (least fan)] W fun r W' => r = .returned (.bool (dropT (least fan) h key t).2) ∧ Sep w W' (nodeRes h p (dropT (least fan) h key t).1 :: l)) :
    Calls Try.prog 36 #[.pointer (some ⟨p, 0, none⟩), .string key, .int .i64 (least fan)] W fun r W' => r = .returned (.bool (dropT (least fan) (h + 1) key t).2) ∧ Sep w W' (nodeRes (h + 1) p (dropT (least fan) (h + 1) key t).1 :: l) := by
  have hks : Sorted t.keys := hso.sublist hk.keys
  obtain ⟨ka, kb, ca, c, cb, ht, e1, e2, e3, e4, e5, e6, e7, e8, e9⟩ := hk.at_ hso key
  have hcl : t.kids = ca ++ c :: cb := by rw [ht]; rfl
  have hc0 : t.kids[below t.keys key]! = c := by rw [← e1, hcl]; exact get_mid (by omega)
  have hcs : Sorted (toL h c) := by
    rw [e4] at hso
    exact (List.pairwise_append.1 (List.pairwise_append.1 hso).2.1).1
  have hl1 : 1 ≤ c.keys.length := by unfold least at e8; omega
  obtain ⟨ks', hks'⟩ : ∃ ks', ks' = if here t.keys key then t.keys.set (below t.keys key) (lastT h c) else t.keys := ⟨_, rfl⟩
  obtain ⟨key', hkey'⟩ : ∃ key', key' = if here t.keys key then (lastT h c).1 else key := ⟨_, rfl⟩
  have hD : dropT (least fan) (h + 1) key t = dropAt (least fan) t (below t.keys key) ks' (dropT (least fan) h key' c) := by
    rw [dropT, hc0, hks', hkey']
    by_cases hh : here t.keys key = true
    · rw [if_pos hh, if_pos hh, if_pos hh]
    · rw [if_neg hh, if_neg hh, if_neg hh]
  obtain ⟨i1, i2, i3, i4, i5⟩ := dropT_ok hf3 h key' c e7 hcs (fun _ => hl1) e9
  have hksl : ks'.length = t.keys.length := by rw [hks']; split <;> simp
  have hset : ∀ c', t.kids.set (below t.keys key) c' = ca ++ c' :: cb := fun c' => by rw [hcl]; exact set_mid e2
  have hkl := hk.1
  have hbl := below_le t.keys key
  have hkd2 : ∀ x ∈ ca ++ cb, Kd fan h x ∧ x.keys.length < fan := by
    intro x hx
    have := hk.2 x (by rw [hcl]; rcases List.mem_append.1 hx with q | q; exact List.mem_append_left _ q; exact List.mem_append_right _ (List.mem_cons_of_mem _ q))
    exact ⟨this.1, this.2.2⟩
  have HIH := Lib.hid (fun (q : Nat) (W' : World) (l' : List Res) (hq : Sep w W' (nodeRes h q c :: l')) => ih key' q c w W' l' hq e7 hcs hl1 e9)
  have HLAST := Lib.hid (fun (q : Nat) (W' : World) (hn : NodeAt h W' q c) => last_any hn e7 hl1 hf3 hf64 e9)
  have hfin : ∀ (c' : T) (b : Bool), dropT (least fan) h key' c = (c', b) → dropT (least fan) (h + 1) key t = (if c'.keys.length < least fan then fillT (.nd ks' (ca ++ c' :: cb)) (below t.keys key) (least fan) else .nd ks' (ca ++ c' :: cb), b) := by
    intro c' b hq
    rw [hD, hq]
    unfold dropAt
    simp only [hset]
  have HFIN := Lib.hid hfin
  generalize hr : dropT (least fan) h key' c = r at HIH i1 i2 i3 i4 i5
  obtain ⟨c', b⟩ := r
  have HR := Lib.hid (hfin c' b hr)
  simp only at i1 i2 i3 i4 i5 HIH
  rw [HR.out]
  have hfan1 : least fan ≤ 64 := by unfold least; omega
  have HN := Lib.hid hs.node
  have HS := Lib.hid hs
  have HKS := Lib.hid hks
  have HKS' := Lib.hid hks'
  have HKEY' := Lib.hid hkey'
  have HCL := Lib.hid hcl
  have HE2 := Lib.hid e2
  have HKSL := Lib.hid hksl
  have HI3 := Lib.hid i3
  have HKD2 := Lib.hid hkd2
  clear hs hks ht hcl hc0 hcs hks' hkey' hD i1 i2 i3 hset hfin hr ih hso hk e1 e2 e3 e4 e5 e6 e7 HFIN hksl hkd2
  go_enter Try.func36, Try.ntmps36
  go_wp2_with fail
  refine (find_any HN.out (by omega) HKS.out key).mono ?_
  rintro r w1 ⟨rfl, o1⟩
  have HS1 := Lib.hid (HS.out.only o1)
  clear o1
  obtain ⟨i, hi⟩ : ∃ i, i = below t.keys key := ⟨_, rfl⟩
  rw [← hi] at hbl ⊢
  have HI := Lib.hid hi
  generalize hx : here t.keys key = x
  have HX := Lib.hid hx
  clear hi hx
  obtain ⟨kp, kq, cp, cq, ps, hpl, hs2⟩ := HS1.out.nodeOpen
  have hpl' := hpl
  rw [HCL.out] at hs2 hpl'
  obtain ⟨pa, q, pb, hps, hpa, hpb, hz⟩ := zip_cut (f := subRes (h + 1)) hpl'
  rw [hz] at hs2
  have hpsl : 0 < ps.length := by rw [hps]; simp only [List.length_append, List.length_cons]; omega
  have hil : i < ps.length := by rw [hps, HI.out, ← HE2.out, ← hpa]; simp
  have rP := hs2.rowOf (e := 84) (size := 1) (v := .slice cp ps.length cq) (n := ps.length) (xs := ps.map ptrV) (by simp)
  have hqi : ps[i]? = some q := by rw [hps, List.getElem?_append_right (by rw [hpa, HE2.out, HI.out]; exact Nat.le_refl _), hpa, HE2.out, HI.out, Nat.sub_self]; rfl
  obtain ⟨g, rfl, c1⟩ := kid_cell rP hqi
  have p1 := cell_of_block hs2.blk 1 (v := .slice (some ⟨g, 0, none⟩) ps.length cq) rfl
  have p0 := cell_of_block hs2.blk 0 (v := .slice kp t.keys.length kq) rfl
  have HNQ := Lib.hid (show NodeAt h w1 q c from hs2.mem (R := nodeRes h q c) (by rw [show subRes (h + 1) q c = nodeRes h q c from rfl]; simp))
  have HS2 := Lib.hid hs2
  have HPS := Lib.hid hps
  have HPL := Lib.hid hpl
  have HPA := Lib.hid hpa
  have HPB := Lib.hid hpb
  have HQI := Lib.hid hqi
  have mixed : Try.prog.follows .mixedOrders = true := by kernel_rfl
  clear hs2 hpl hpl' hps hpa hpb hz rP hqi
  go_upto_if 35 with fail
  go_cut [1] (fun s1 wx => s1 = .string key' ∧ Sep w wx (blkRes p (.cells #[.slice kp t.keys.length kq, .slice (some ⟨g, 0, none⟩) ps.length cq] 91 (0, 0)) :: rowRes 31 2 (.slice kp t.keys.length kq) t.keys.length (cellsE ks') ::
      rowRes 84 1 (.slice (some ⟨g, 0, none⟩) ps.length cq) ps.length (ps.map ptrV) :: (List.zipWith (subRes (h + 1)) pa ca ++ nodeRes h q c :: List.zipWith (subRes (h + 1)) pb cb ++ l)))
  case first =>
    cases x with
    | false =>
      have HK2 : Hid (key' = key) := by have := HKEY'.out; rw [HX.out] at this; exact this
      have HK3 : Hid (ks' = t.keys) := by have := HKS'.out; rw [HX.out] at this; exact this
      go_wp2_with fail
      go_meet
      refine ⟨by rw [HK2.out], ?_⟩
      rw [HK3.out]
      exact HS2.out
    | true =>
      have HK2 : Hid (key' = (lastT h c).1) := by have := HKEY'.out; rw [HX.out] at this; exact this
      have HK3 : Hid (ks' = t.keys.set i (lastT h c)) := by have := HKS'.out; rw [HX.out] at this; rw [HI.out]; exact this
      have hil2 := here_get' (L := t.keys) (key := key) HX.out
      rw [← HI.out] at hil2
      obtain ⟨e, hke⟩ : ∃ e, t.keys[i]? = some e := ⟨_, List.getElem?_eq_getElem hil2⟩
      have HKE := Lib.hid hke
      clear hke
      generalize hf : lastT h c = f at HK2 HK3 HLAST
      obtain ⟨gk, rfl, _, _⟩ := keyCells HS2.out.up1.row HKE.out
      have HF := Lib.hid hf
      clear hf
      go_upto_region 7 with fail
      go_region_with ((go_at_call 44; refine (HLAST.out q _ HNQ.out.drew).mono ?_; rintro r w4 ⟨rfl, o4⟩; have o5 := (Only.drew [] w1).trans o4 (Within.nil _ _); have HS4 := Lib.hid (HS2.out.only o5); have p0n := (o5.cell (block_lt_of_cell p0) (by simp)).trans p0; have hk0 := HS4.out.up1.rowCell (cellsE_get HKE.out).1; have hk1 := HS4.out.up1.rowCell (cellsE_get HKE.out).2; have e0 := hk0.1; have e1 := hk1.1; have fz0 := hk0.2; have fz1 := hk1.2; clear o4 o5 hk0 hk1))
      all_goals
        have hst := ((HS4.out.up1).rowStore (i * 2) (.string f.1)).rowStore (i * 2 + 1) (.int .i64 f.2)
        rw [cellsE_set] at hst
        have HST := Lib.hid hst.up1
        have y0 := cell_of_block HST.out.blk 0 (v := .slice (some ⟨gk, 0, none⟩) t.keys.length kq) rfl
        have hgf : (t.keys.set i f)[i]? = some f := by rw [List.getElem?_set_self hil2]
        obtain ⟨_, he, y1, _⟩ := keyCells HST.out.up1.row hgf
        cases he
        clear hst hgf e0 e1 fz0 fz1 p0n p0 p1 c1
        go_wp2_with fail
        go_meet
        refine ⟨by rw [HK2.out], ?_⟩
        rw [HK3.out]
        exact HST.out
  case rest =>
    obtain ⟨rfl, hs3⟩ := hcut
    obtain ⟨V, hV⟩ : ∃ V : World, V = wc := ⟨_, rfl⟩
    rw [← hV] at hs3 ⊢
    clear hV p0 p1 c1 HNQ HS2
    have HS3 := Lib.hid (hs3.reorder (l' := nodeRes h q c :: (blkRes p (.cells #[.slice kp t.keys.length kq, .slice (some ⟨g, 0, none⟩) ps.length cq] 91 (0, 0)) :: rowRes 31 2 (.slice kp t.keys.length kq) t.keys.length (cellsE ks') ::
      rowRes 84 1 (.slice (some ⟨g, 0, none⟩) ps.length cq) ps.length (ps.map ptrV) :: (List.zipWith (subRes (h + 1)) pa ca ++ (List.zipWith (subRes (h + 1)) pb cb ++ l)))) (by intro x; simp only [List.count_append, List.count_cons, List.count_nil, List.cons_append, List.nil_append, List.append_assoc]; omega))
    have p1 := cell_of_block hs3.blk 1 (v := .slice (some ⟨g, 0, none⟩) ps.length cq) rfl
    obtain ⟨_, he, c1⟩ := kid_cell hs3.up2.row HQI.out
    cases he
    clear hs3
    have hilk : i ≤ t.keys.length := hbl
    go_wp2_with fail
    refine (HIH.out q V _ HS3.out).mono ?_
    rintro r w4 ⟨rfl, hs4⟩
    have hsP : Sep w w4 (nodeRes (h + 1) p (.nd ks' (ca ++ c' :: cb)) :: l) := by
      refine Sep.nodeShut2 (h := h + 1) (p := p) (t := .nd ks' (ca ++ c' :: cb)) (ps := ps) (kv := .slice kp t.keys.length kq) (cv := .slice (some ⟨g, 0, none⟩) ps.length cq) (n := t.keys.length) (m := ps.length)
        (by rw [T.keys_nd, HKSL.out]) rfl (by rw [HPL.out, HCL.out, T.kids_nd]; simp) (hs4.reorder (by
          have hzz : List.zipWith (subRes (h + 1)) ps (ca ++ c' :: cb) = List.zipWith (subRes (h + 1)) pa ca ++ nodeRes h q c' :: List.zipWith (subRes (h + 1)) pb cb := by
            rw [HPS.out, List.zipWith_append HPA.out]; rfl
          rw [T.kids_nd, T.keys_nd, hzz]
          intro x; simp only [List.count_append, List.count_cons, List.count_nil, List.cons_append, List.nil_append, List.append_assoc]; omega))
    have HP := Lib.hid hsP
    obtain ⟨kp2, kq2, cp2, cq2, ps2, hpl2, hs6⟩ := hs4.nodeOpen
    have q0 := cell_of_block hs6.blk 0 (v := .slice kp2 c'.keys.length kq2) rfl
    have p1n := cell_of_block (hs6.blkOf (g := p) (o := .cells #[.slice kp t.keys.length kq, .slice (some ⟨g, 0, none⟩) ps.length cq] 91 (0, 0)) (by simp)) 1 (v := .slice (some ⟨g, 0, none⟩) ps.length cq) rfl
    have rPn := hs6.rowOf (e := 84) (size := 1) (v := .slice (some ⟨g, 0, none⟩) ps.length cq) (n := ps.length) (xs := ps.map ptrV) (by simp)
    obtain ⟨_, he', c1n⟩ := kid_cell rPn HQI.out
    cases he'
    clear hs4 hsP hs6 rPn hpl2 p1 c1 HS3 HS1
    by_cases hfn : c'.keys.length < least fan
    · have hfn' : ((c'.keys.length : Int) < (least fan : Int)) := by omega
      have hfa := fill_any (i := i) hf3 hf64 HP.out (by rw [T.kids_nd, T.keys_nd, HKSL.out, ← hkl, HCL.out]; simp) (by rw [T.keys_nd, HKSL.out]; exact hone) (by rw [T.kids_nd, HI.out, ← HE2.out]; simp) (by rw [T.keys_nd, HKSL.out]; omega) (by
        intro x hx
        rw [T.kids_nd] at hx
        rcases List.mem_append.1 hx with q | q
        · exact HKD2.out x (List.mem_append_left _ q)
        · rcases List.mem_cons.1 q with q | q
          · subst q; exact ⟨HI3.out, by omega⟩
          · exact HKD2.out x (List.mem_append_right _ q))
      have HFA := Lib.hid hfa; clear hfa
      go_wp2_with fail
      refine HFA.out.mono ?_
      rintro r w5 ⟨rfl, hs7⟩
      have HF := Lib.hid hs7; clear hs7
      go_wp2_with fail
      go_ret
      refine ⟨rfl, ?_⟩
      (try simp only [if_pos hfn])
      have h9 := HF.out
      rw [HI.out] at h9
      exact h9
    · have hfn' : ¬ ((c'.keys.length : Int) < (least fan : Int)) := by omega
      go_wp2_with fail
      go_ret
      refine ⟨rfl, ?_⟩
      (try simp only [if_neg hfn])
      exact HP.out

/-- (*node).drop: a key taken away beneath a node. -/
theorem drop_any {fan : Nat} (hf3 : 3 ≤ fan) (hf64 : fan ≤ 64) : ∀ (h : Nat) (key : ByteArray) (p : Nat) (t : T) (w W : World) (l : List Res), Sep w W (nodeRes h p t :: l) → Kd fan h t → Sorted (toL h t) → (0 < h → 1 ≤ t.keys.length) → t.keys.length < fan →
    Calls Try.prog 36 #[.pointer (some ⟨p, 0, none⟩), .string key, .int .i64 (least fan)] W fun r W' => r = .returned (.bool (dropT (least fan) h key t).2) ∧ Sep w W' (nodeRes h p (dropT (least fan) h key t).1 :: l) := by
  intro h
  induction h with
  | zero =>
    intro key p t w W l hs hk hso _ hlt
    exact drop_leaf (least fan) key hs hk hso (by omega)
  | succ h ih =>
    intro key p t w W l hs hk hso h1 hlt
    exact drop_inner hf3 hf64 key hs hk hso (h1 (by omega)) hlt (fun key p t w W l a b c d e => ih key p t w W l a b c (fun _ => d) e)

end Go.Proofs.Ytpaffpiaoanegaa
