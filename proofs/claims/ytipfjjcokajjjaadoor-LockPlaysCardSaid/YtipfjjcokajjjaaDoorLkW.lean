/-
  What is proved here: (*lock.Table).Release.
  No condition: each lemma names its own.
-/
import Derived.Test.YtipfjjcokajjjaaDoorLkR
import Derived.Deep.LoopGhost
set_option linter.unusedVariables false
set_option linter.unusedSimpArgs false
namespace Go.Proofs.YtipfjjcokajjjaaDoor
open Go.RowKit

set_option maxRecDepth 100000 in
theorem release_nil (h : Int) (W : World) : Calls Tryd.prog 16 #[.pointer none, .int .i64 h] W fun e W' => e = .returned (.slice none 0 0) ∧ Only [] W W' := by
  have HO := Lib.hid (Only.alloc [] W (.cells #[.int .i64 h] 3))
  go_enter Tryd.func16, Tryd.ntmps16
  go_wp2_with fail
  go_ret
  exact ⟨rfl, HO.out⟩

theorem Tryd.infoInt : (Tryd.prog.info? 3).map (fun i => (i.zero, i.size, i.bytes)) = some (some (.int .i64 0), 1, 8) := by kernel_rfl

theorem bytes_inj {a b : ByteArray} (h : a.toList = b.toList) : a = b := by
  rw [Lib.toList_data, Lib.toList_data] at h
  cases a; cases b
  simp only [ByteArray.mk.injEq]
  exact Array.toList_inj.1 h

theorem win_not {w W : World} {e : TypeId} {size : Nat} {v : Value} {n : Nat} {xs : List Value} {hb : Nat} {o : Obj} {l : List Res} (h : Sep w W (winRes e size v n xs :: blkRes hb o :: l)) : ∀ F, (winRes e size v n xs).at' W F → hb ∉ F := by
  intro F hF
  obtain ⟨F0, G, h1, ⟨rfl, _⟩, h3, _⟩ := h.two
  rcases hF with ⟨_, _, _, rfl⟩ | ⟨g, o1, c1, cur1, P1, S1, e1, _, _, _, _, _, _, _, rfl⟩
  · simp
  · rcases h1 with ⟨e2, _⟩ | ⟨g', o2, c2, cur2, P2, S2, e2, _, _, _, _, _, _, _, rfl⟩
    · rw [e1] at e2; cases e2
    · rw [e1] at e2
      simp only [Value.slice.injEq, Option.some.injEq, Addr.mk.injEq] at e2
      obtain ⟨⟨rfl, _⟩, _⟩ := e2
      intro hc
      simp only [List.mem_singleton] at hc
      exact h3 g (by simp) (by simp [hc])

theorem delf_rel {w W : World} {l : List Res} {v : Value} {q : HM} {hb : Nat} {h : Int} (hlen : q.length ≤ 100000) (hs : Sep w W (winRes 65 2 v q.length (wCells q) :: blkRes hb (.cells #[.int .i64 h] 3 (0, 0)) :: l)) :
    Calls Tryd.prog 36 #[v, .func (.func 37) #[] #[.pointer (some ⟨hb, 0, none⟩)]] W fun e W' =>
      ∃ p' c', e = .returned (.slice p' (outL q h).length c') ∧ Sep w W' (winRes 65 2 (.slice p' (outL q h).length c') (outL q h).length (wCells (outL q h)) :: blkRes hb (.cells #[.int .i64 h] 3 (0, 0)) :: l) := by
  refine (delf_any 37 #[.pointer (some ⟨hb, 0, none⟩)] (fun y => decide (y.1 = h)) (enters_of Tryd.func37 (by kernel_rfl) rfl) hlen hs (fun F hF => rel1_any hs.up1.blk rfl (win_not hs F hF))).mono ?_
  rintro e W' ⟨v', rfl, hw⟩
  have e1 : q.filter (fun y => !decide (y.1 = h)) = outL q h := by unfold outL; exact List.filter_congr fun y _ => by simp
  rw [e1] at hw
  rcases hw.win with ⟨g1, g2, _⟩ | ⟨g, o, cap, cur, P0, S0, g1, _⟩
  · exact ⟨none, 0, by rw [g1, g2], by rw [g2]; rw [g1, g2] at hw; exact hw⟩
  · subst g1; exact ⟨_, _, rfl, hw⟩

theorem win_next {w W : World} {e : TypeId} {g o o' n cap : Nat} {xs : List Value} {l : List Res} (h : Sep w W (winRes e 2 (.slice (some ⟨g, o, none⟩) (n + 1) cap) (n + 1) xs :: l)) (ho : o' = if cap = 1 then o else o + 2) :
    Sep w W (winRes e 2 (.slice (some ⟨g, o', none⟩) n (cap - 1)) n (xs.drop 2) :: l) := by
  subst ho
  by_cases hc : cap = 1
  · rw [if_pos hc]
    rcases h.win with ⟨q, _⟩ | ⟨g2, o2, cap2, cur, P, S, q, hw⟩
    · cases q
    · simp only [Value.slice.injEq, Option.some.injEq, Addr.mk.injEq] at q
      obtain ⟨⟨rfl, rfl, _⟩, _, rfl⟩ := q
      have h1 := hw.le
      have hn : n = 0 := by omega
      subst hn
      have hx : xs.drop 2 = [] := List.drop_of_length_le (by rw [hw.len]; omega)
      rw [hx]
      exact h.winTurn (Only.refl _ _) (cur := cur) (P := P) (S := xs ++ S) rfl ⟨hw.blk, by rw [hw.eq]; simp, hw.pre, by simp, Nat.zero_le _, by have := hw.max; omega, by rw [hc]; simp⟩
  · rw [if_neg hc]
    have hle : n + 1 ≤ cap := by
      rcases h.win with ⟨q, _⟩ | ⟨g2, o2, cap2, cur, P, S, q, hw⟩
      · cases q
      · simp only [Value.slice.injEq, Option.some.injEq, Addr.mk.injEq] at q
        obtain ⟨_, _, rfl⟩ := q
        exact hw.le
    have hlx : xs.length = (n + 1) * 2 := by
      rcases h.win with ⟨q, _⟩ | ⟨g2, o2, cap2, cur, P, S, q, hw⟩
      · cases q
      · exact hw.len
    refine h.winSub 1 (n + 1) (cap - 1) (by omega) (Nat.le_refl _) (by omega) (by omega) (by rw [Nat.one_mul]) (by omega) ?_
    rw [List.take_of_length_le (by omega)]

theorem wpList_delete_run {P : Program} (w : World) {ops : Array Oper} {rest : List Oper} {o : Oper} {a : Act} {Q : Exit → Act → World → Prop} (hgd : o.guard = none) (m x : Operand) (t kt : TypeId)
    (ho : o.op = .call { callee := .builtin .delete, args := #[m, x], argTypes := #[t, kt] }) (v u : Value) (hm : a.eval m = v) (hx : a.eval x = u) {v' : Value} {w' : World}
    (hr : (Builtin.delete_ #[t, kt] o.type #[v, u]).run P w = .ok v' w') (h : wpList P ops Q rest (a.put o.dst v') w') : wpList P ops Q (o :: rest) a w := by
  refine wpList_plain hgd fun _ hK => ?_
  unfold Oper.wp execOp
  simp only [ho, resolve, invoke, builtin, Sem.run_bind, Sem.run_pure, Result.andThen_ok, List.map_toArray, List.map_cons, List.map_nil, hm, hx, hr]
  exact hK _ _ h

/-- What Release looks at in a thing that lies open. -/
theorem open_sees {w W : World} {p r b mT mW : Nat} {v : Value} {x : Th} {wl : List (Int × ByteArray)} {ta tb : TP} {l : List Res} {t tab : Tab} (hg : Good t) (hx : GoodT x) {h : Int} (hw : WOk t tab h wl) (hs : Sep w W (openL p r v x.has x.q b mT mW (namesOf (ta ++ (x, p) :: tb)) wl ta tb l)) :
    (Instr.lookup 53 (.map (some mT)) (.string x.name) false).run Tryd.prog W = .ok (.pointer (some ⟨p, 0, none⟩)) W ∧
    (Instr.lookup 58 (.map (some r)) (.int .i64 h) true).run Tryd.prog W = .ok (.tuple #[.int .i64 (modeL x.has h), .bool (decide (0 < modeL x.has h))]) W ∧
    (Instr.lookup 54 (.map (some mW)) (.int .i64 h) false).run Tryd.prog W = .ok (.string ((waitsM t h).getD ⟨#[]⟩)) W := by
  refine ⟨?_, ?_, ?_⟩
  · obtain ⟨o, b1, h1⟩ := hs.mapOf (mk := mStr) (mv := mPtr) (ks := namesOf (ta ++ (x, p) :: tb)) (r := mT) (by simp [openL])
    exact mapG_look strKey Tryd.underlying53 Tryd.underlying9 b1 h1 (a := x.name) (v := p) names_mem false
  · obtain ⟨o, b1, h1⟩ := hs.mapOf (mk := mInt) (mv := mInt) (ks := x.has) (r := r) (by simp [openL])
    exact modes_look_ok Tryd.underlying58 Tryd.underlying3 Tryd.zInt b1 h1 hx.has h
  · obtain ⟨o, b1, h1⟩ := hs.mapOf (mk := mInt) (mv := mStr) (ks := wl) (r := mW) (by simp [openL])
    cases e : waitsM t h with
    | none =>
      refine mapG_miss intKey Tryd.underlying54 Tryd.underlying3 b1 h1 (fun y hy e2 => ?_) (Tryd.zStr W) false
      obtain ⟨y1, y2⟩ := y
      rcases (hw y1 y2).1 hy with q | q
      · exact waitsM_none hg.each e _ q.2 rfl
      · exact q.1 e2
    | some n => exact mapG_look intKey Tryd.underlying54 Tryd.underlying3 b1 h1 ((hw h n).2 (.inl ⟨rfl, waitsM_some hg.each e⟩)) false

set_option maxRecDepth 100000 in
set_option maxHeartbeats 8000000 in
theorem release_any {w W : World} {l : List Res} {b : Nat} {t : Tab} (hg : Good t) (htog : Tog w) (h : Int) (hs : Sep w W (tabRes b t :: l)) :
    Calls Tryd.prog 16 #[.pointer (some ⟨b, 0, none⟩), .int .i64 h] W fun e W' =>
      ∃ p q, e = .returned (.slice p (relM t h).1.length q) ∧ Sep w W' (rowRes 3 1 (.slice p (relM t h).1.length q) (relM t h).1.length (intCells (relM t h).1) :: tabRes b (relM t h).2 :: l) := by
  have hs1 := hs.alloc #[.int .i64 h] 3
  have hth := things_any hg hs1.up1
  obtain ⟨ii, II⟩ := info_of Tryd.infoInt
  have HTH := Lib.hid hth
  have HG := Lib.hid hg
  have HTOG := Lib.hid htog
  have htl : t.length ≤ 256 := hg.len
  have HR1 := Lib.hid (show (relM t h).1 = outS t h from rfl)
  have HR2 := Lib.hid (show (relM t h).2 = doneL t h from rfl)
  obtain ⟨V0, hV0⟩ : ∃ V0, V0 = W.alloc (.cells #[.int .i64 h] 3) := ⟨_, rfl⟩
  rw [← hV0] at HTH
  have HV0 := Lib.hid hV0
  clear hs hs1 hth hg htog hV0
  go_enter Tryd.func16, Tryd.ntmps16
  go_upto_region 4 with fail
  rw [← HV0.out]
  go_wp2_with (go_at_call 25; refine HTH.out.mono ?_; rintro e w2 ⟨p1, q1, rfl, hs2⟩)
  have HS2 : Hid (Sep w w2 (rowRes 3 1 (.slice none 0 0) 0 [] :: midRes b t (waitsL t) :: rowRes 9 1 (.slice p1 t.length q1) t.length (strCells (t.map (·.name))) :: blkRes W.heap.size (.cells #[.int .i64 h] 3 (0, 0)) :: l)) := by
    refine Lib.hid (Sep.row_nil ?_ _ _)
    have h1 := mid_of hs2.up1
    exact h1.reorder (by intro x; simp only [List.count_append, List.count_cons, List.count_nil, List.cons_append, List.nil_append, List.append_assoc]; try omega)
  clear hs2
  go_loopg [5, 7, 8, 9, 10, 11, 17] t.length (fun gg s5 _ _ _ _ _ s17 wr => ∃ (pre rest : Tab) (po : Option Addr) (qo : Nat) (wl : List (Int × ByteArray)), t.length - pre.length ≤ gg ∧ s17 = .int .i64 pre.length ∧ s5 = .slice po (outS pre h).length qo ∧ Aside (t = pre ++ rest) ∧ Aside (WOk t (doneL pre h ++ rest) h wl) ∧
    Aside (Sep w wr (rowRes 3 1 (.slice po (outS pre h).length qo) (outS pre h).length (intCells (outS pre h)) :: midRes b (doneL pre h ++ rest) wl :: rowRes 9 1 (.slice p1 t.length q1) t.length (strCells (t.map (·.name))) :: blkRes W.heap.size (.cells #[.int .i64 h] 3 (0, 0)) :: l)))
  case atStart => exact ⟨[], t, none, 0, waitsL t, by omega, rfl, rfl, rfl, wok_start t h, HS2.out⟩
  case round =>
    obtain ⟨pre, rest, po, qo, wl, hgg, rfl, rfl, HT, HWK, HSW⟩ := hrel
    have hteq : t = pre ++ rest := HT
    have hpl : pre.length ≤ t.length := by rw [hteq]; simp
    cases rest with
    | nil =>
      have hpt : pre = t := by rw [hteq]; simp
      subst hpt
      have hltz : ¬ ((pre.length : Int) < (pre.length : Int)) := by omega
      have hwk : WOk pre (relM pre h).2 h wl := by rw [HR2.out]; simpa using (show WOk pre (doneL pre h ++ []) h wl from HWK)
      have hsw : Sep w wr (rowRes 3 1 (.slice po (outS pre h).length qo) (outS pre h).length (intCells (outS pre h)) :: midRes b (doneL pre h) wl :: rowRes 9 1 (.slice p1 pre.length q1) pre.length (strCells (pre.map (·.name))) :: blkRes W.heap.size (.cells #[.int .i64 h] 3 (0, 0)) :: l) := by simpa using (show Sep w wr (rowRes 3 1 (.slice po (outS pre h).length qo) (outS pre h).length (intCells (outS pre h)) :: midRes b (doneL pre h ++ []) wl :: rowRes 9 1 (.slice p1 pre.length q1) pre.length (strCells (pre.map (·.name))) :: blkRes W.heap.size (.cells #[.int .i64 h] 3 (0, 0)) :: l) from HSW)
      obtain ⟨⟨⟨mT, mW⟩, tp⟩, h1, h2⟩ := (hsw.up1).open
      simp only [midParts, List.cons_append] at h1
      have hb1 := cell_of_block h1.blk 1 (v := .map (some mW)) rfl
      have hb2 := cell_of_block (h1.blkOf (g := W.heap.size) (o := .cells #[.int .i64 h] 3 (0, 0)) (by simp)) 0 (v := .int .i64 h) rfl
      obtain ⟨oW, bW, hW⟩ := h1.up2.map
      obtain ⟨W5, o5, hdel, hm5, ht5⟩ := mapG_del (P := Tryd.prog) (w := wr.drew) intKey Tryd.underlying54 Tryd.underlying3 bW hW h 0 3
      have hdel2 : (Builtin.delete_ #[54, 3] 0 #[.map (some mW), .int .i64 h]).run Tryd.prog wr.drew = .ok (.tuple #[]) W5 := hdel
      have HFIN : Hid (Sep w W5 (rowRes 3 1 (.slice po (outS pre h).length qo) (outS pre h).length (intCells (outS pre h)) :: tabRes b (relM pre h).2 :: l)) := by
        have h3 := (h1.drew.up2.mapTurn ht5 hm5).dn2
        have h4 := Sep.close (ps := midParts b (delL wl h)) (Q := fun x => x.2.map Prod.fst = doneL pre h) ((mT, mW), tp) h3 h2
        have h5 := mid_to h4 (by have := wok_end HG.out hwk hW.nodup; rwa [HR2.out] at this)
        rw [HR2.out]
        exact Lib.hid (((h5.up2.tail).up2.tail).up1)
      clear h1 h2 bW hW hm5 ht5 hdel hsw hwk HWK HSW HT hteq
      go_upto_region 21 with fail
      refine wp_region_last (S := (fun w' => w'.cell? ⟨b, 1, none⟩ = some (.map (some mW)) ∧ w'.cell? ⟨W.heap.size, 0, none⟩ = some (.int .i64 h))) (by kernel_rfl) 5 _ rfl rfl rfl (by kernel_rfl) [4, 3, 2, 1, 0] (by kernel_rfl) (by kernel_rfl) ?_ (fun hHeld => ?_)
      · (try dsimp only); (first | go_keep | (refine ⟨?_, ?_⟩ <;> assumption))
      simp only [lull, List.setIfInBounds_toArray, List.set_cons_succ, List.set_cons_zero]
      refine wpAnyH_take (i := 0) (v := ?_) rfl (by kernel_rfl) (by kernel_rfl) (by kernel_rfl) (fun _ _ _ h => h) (Or.inl ⟨by rfl, ?_⟩) (by assumption) ?_
      rotate_left
      · (intro w hSw; (try dsimp only at hSw); go_simp; try with_reducible rfl)
      (try simp only [Act.put, List.setIfInBounds_toArray, List.set_cons_zero, List.set_cons_succ])
      refine wpAnyH_take (i := 1) (v := ?_) rfl (by kernel_rfl) (by kernel_rfl) (by kernel_rfl) (fun _ _ _ h => h) (Or.inl ⟨by rfl, ?_⟩) (by assumption) ?_
      rotate_left
      · (intro w hSw; (try dsimp only at hSw); go_simp; try with_reducible rfl)
      (try simp only [Act.put, List.setIfInBounds_toArray, List.set_cons_zero, List.set_cons_succ])
      refine wpAnyH_take (i := 2) (v := ?_) rfl (by kernel_rfl) (by kernel_rfl) (by kernel_rfl) (fun _ _ _ h => h) (Or.inl ⟨by rfl, ?_⟩) (by assumption) ?_
      rotate_left
      · (intro w hSw; (try dsimp only at hSw); go_simp; try with_reducible rfl)
      (try simp only [Act.put, List.setIfInBounds_toArray, List.set_cons_zero, List.set_cons_succ])
      refine wpAnyH_take (i := 3) (v := ?_) rfl (by kernel_rfl) (by kernel_rfl) (by kernel_rfl) (fun _ _ _ h => h) (Or.inl ⟨by rfl, ?_⟩) (by assumption) ?_
      rotate_left
      · (intro w hSw; (try dsimp only at hSw); go_simp; try with_reducible rfl)
      (try simp only [Act.put, List.setIfInBounds_toArray, List.set_cons_zero, List.set_cons_succ])
      refine wpAnyH_take (i := 4) (v := ?_) rfl (by kernel_rfl) (by kernel_rfl) (by kernel_rfl) (fun _ _ _ h => h) (Or.inl ⟨by rfl, ?_⟩) (by assumption) ?_
      rotate_left
      · (intro w hSw; (try dsimp only at hSw); go_simp; try with_reducible rfl)
      (try simp only [Act.put, List.setIfInBounds_toArray, List.set_cons_zero, List.set_cons_succ])
      refine wpAnyH_take (i := 5) (v := ?_) rfl (by kernel_rfl) (by kernel_rfl) (by kernel_rfl) (fun _ _ _ h => h) (Or.inl ⟨by rfl, ?_⟩) (by assumption) ?_
      rotate_left
      · (intro w hSw; (try dsimp only at hSw); go_simp; try with_reducible rfl)
      (try simp only [Act.put, List.setIfInBounds_toArray, List.set_cons_zero, List.set_cons_succ])
      refine wpAnyH_done (by kernel_rfl) ?_ _
      refine tail_run rfl rfl ?_
      clear hHeld
      go_simp
      go_wp2_with fail
      go_ret
      exact ⟨po, qo, by rw [HR1.out]; rfl, by rw [HR1.out]; exact HFIN.out⟩
    | cons x rest =>
      have hlt : pre.length < t.length := by rw [hteq]; simp
      have hltz : (pre.length : Int) < (t.length : Int) := by omega
      have hxt : x ∈ t := by rw [hteq]; simp
      have hx := HG.out.each x hxt
      have hsw : Sep w wr (midRes b (doneL pre h ++ x :: rest) wl :: rowRes 3 1 (.slice po (outS pre h).length qo) (outS pre h).length (intCells (outS pre h)) :: rowRes 9 1 (.slice p1 t.length q1) t.length (strCells (t.map (·.name))) :: blkRes W.heap.size (.cells #[.int .i64 h] 3 (0, 0)) :: l) := (show Sep w wr (rowRes 3 1 (.slice po (outS pre h).length qo) (outS pre h).length (intCells (outS pre h)) :: midRes b (doneL pre h ++ x :: rest) wl :: rowRes 9 1 (.slice p1 t.length q1) t.length (strCells (t.map (·.name))) :: blkRes W.heap.size (.cells #[.int .i64 h] 3 (0, 0)) :: l) from HSW).up1
      obtain ⟨p, r, v, mT, mW, ta, tb, hta, htb, hso⟩ := mid_open hsw
      have hnmc : (strCells (t.map (·.name)))[pre.length]? = some (.string x.name) := by rw [hteq]; simp [strCells]
      obtain ⟨g1, rfl⟩ := (hsw.up2).rowAt (by simp [strCells]; omega)
      have c0 := ((hsw.up2).rowCell hnmc).1
      obtain ⟨sT, sH, sW⟩ := open_sees HG.out hx HWK hso
      have sHn : ∀ n, (Instr.lookup 58 (.map (some r)) (.int .i64 h) true).run Tryd.prog (wr.drewN n) = .ok (.tuple #[.int .i64 (modeL x.has h), .bool (decide (0 < modeL x.has h))]) (wr.drewN n) := fun n => (open_sees HG.out hx HWK (hso.only (Only.drewN [] wr n))).2.1
      have bb0 := cell_of_block (hso.blkOf (g := b) (o := tabObj mT mW) (by simp [openL])) 0 (v := .map (some mT)) rfl
      have pp0 := cell_of_block hso.blk 0 (v := .map (some r)) rfl
      have hh0 := cell_of_block (hso.blkOf (g := W.heap.size) (o := .cells #[.int .i64 h] 3 (0, 0)) (by simp [openL])) 0 (v := .int .i64 h) rfl
      have HSO := Lib.hid hso
      have HX := Lib.hid hx
      have HTA := Lib.hid hta
      have HTB := Lib.hid htb
      have HTE := Lib.hid hteq
      clear hso hx hta htb hnmc hsw sW sH HSW hteq HT hxt
      obtain ⟨had, hhad⟩ : ∃ had, had = decide (0 < modeL x.has h) := ⟨_, rfl⟩
      rw [← hhad] at sHn
      have HHAD := Lib.hid hhad
      clear hhad
      go_upto_region 8 with fail
      clear c0 bb0 sT
      go_quiet (fail)
      have HSA := Lib.hid (HSO.out.only (Only.drewN [] wr nq))
      generalize wr.drewN nq = wA at *
      obtain ⟨S, hS⟩ : ∃ S, S = (waitsM t h).getD ⟨#[]⟩ := ⟨_, rfl⟩
      have HSS := Lib.hid hS
      have hb1 := cell_of_block (HSA.out.blkOf (g := b) (o := tabObj mT mW) (by simp [openL])) 1 (v := .map (some mW)) rfl
      have hh1 := cell_of_block (HSA.out.blkOf (g := W.heap.size) (o := .cells #[.int .i64 h] 3 (0, 0)) (by simp [openL])) 0 (v := .int .i64 h) rfl
      have sWn : ∀ n, (Instr.lookup 54 (.map (some mW)) (.int .i64 h) false).run Tryd.prog (wA.drewN n) = .ok (.string S) (wA.drewN n) := fun n => by
        have := (open_sees HG.out HX.out HWK (HSA.out.only (Only.drewN [] wA n))).2.2
        rwa [← hS] at this
      clear hS pp0 hh0 sHn HSO
      go_upto_region 9 with fail
      go_cut [47] (fun s47 wx => s47 = .bool (!had && decide (S ≠ x.name)) ∧ Sep w wx (openL p r v x.has x.q b mT mW (namesOf (ta ++ (x, p) :: tb)) wl ta tb (rowRes 3 1 (.slice po (outS pre h).length qo) (outS pre h).length (intCells (outS pre h)) :: rowRes 9 1 (.slice (some ⟨g1, 0, none⟩) t.length q1) t.length (strCells (t.map (·.name))) :: blkRes W.heap.size (.cells #[.int .i64 h] 3 (0, 0)) :: l)))
      case first =>
        cases had with
        | true =>
          go_quiet (fail)
          go_wp2_with fail
          go_meet
          exact ⟨rfl, HSA.out.only (Only.drewN [] wA nq)⟩
        | false =>
          by_cases hSn : S = x.name
          · have e1 : (S.toList == x.name.toList) = true := by rw [hSn]; simp
            have HSN := Lib.hid hSn
            clear hSn
            go_quiet (fail)
            go_wp2_with fail
            go_meet
            exact ⟨by simp [HSN.out], HSA.out.only (Only.drewN [] wA nq)⟩
          · have e1 : (S.toList == x.name.toList) = false := by
              rw [beq_eq_false_iff_ne]
              exact fun e => hSn (bytes_inj e)
            have HSN := Lib.hid hSn
            clear hSn
            go_quiet (fail)
            go_wp2_with fail
            go_meet
            exact ⟨by simp [HSN.out], HSA.out.only (Only.drewN [] wA nq)⟩
      case rest =>
        obtain ⟨rfl, hsc⟩ := hcut
        clear HSA sWn hb1 hh1
        have hfx : fullT x = true := by
          have := HX.out.some
          unfold fullT
          rcases this with q | q
          · cases hq : x.has with | nil => exact absurd hq q | cons a b => rfl
          · cases hq : x.q with | nil => exact absurd hq q | cons a b => simp
        by_cases hskip : (!had && decide (S ≠ x.name)) = true
        · rw [hskip]
          have hsp : had = false ∧ S ≠ x.name := by cases had <;> simp at hskip ⊢; exact hskip
          have hm : mineB x h = false := by
            unfold mineB
            rw [← HHAD.out, hsp.1]
            simp only [Bool.false_or, decide_eq_false_iff_not]
            intro hc
            obtain ⟨y, hy, e⟩ := (modeL_pos HX.out.q).1 hc
            have hmm : (h, x.name) ∈ waitsL t := mem_waits.2 ⟨x, by rw [HTE.out]; simp, rfl, y, hy, e⟩
            have := (waitsM_iff HG.out).2 hmm
            exact hsp.2 (by rw [HSS.out, this]; rfl)
          have hrel : relT x h = ([], x) := by unfold relT; rw [hm]; rfl
          have HREL : Hid (t = (pre ++ [x]) ++ rest ∧ (outS (pre ++ [x]) h) = outS pre h ∧ WOk t (doneL (pre ++ [x]) h ++ rest) h wl ∧ Sep w wc (rowRes 3 1 (.slice po (outS pre h).length qo) (outS pre h).length (intCells (outS pre h)) :: midRes b (doneL (pre ++ [x]) h ++ rest) wl :: rowRes 9 1 (.slice (some ⟨g1, 0, none⟩) t.length q1) t.length (strCells (t.map (·.name))) :: blkRes W.heap.size (.cells #[.int .i64 h] 3 (0, 0)) :: l)) := by
            have e1 : doneL (pre ++ [x]) h ++ rest = doneL pre h ++ x :: rest := by rw [done_snoc, hrel, hfx]; simp
            refine Lib.hid ⟨by rw [HTE.out]; simp, by rw [out_snoc, hrel]; simp, by rw [e1]; exact HWK, ?_⟩
            rw [e1]
            have h1 := mid_close (x := x) hsc
            rw [HTA.out, HTB.out] at h1
            exact h1.up1
          clear hsc hrel hm hsp hskip hfx
          go_wp2_with fail
          go_roundg (t.length - (pre.length + 1))
          case measure => omega
          case rel => exact ⟨pre ++ [x], rest, po, qo, wl, by simp, by simp, by rw [HREL.out.2.1], HREL.out.1, HREL.out.2.2.1, (by rw [HREL.out.2.1]; exact HREL.out.2.2.2)⟩
        · have hskip' : (!had && decide (S ≠ x.name)) = false := by simpa using hskip
          rw [hskip']
          clear hskip hskip' hfx
          obtain ⟨pv, cv, rfl⟩ : ∃ pv cv, v = .slice pv x.q.length cv := by
            rcases (hsc.up2).win with ⟨g1, g2, _⟩ | ⟨g, o, cap, cur, P0, S0, g1, _⟩
            · exact ⟨none, 0, by rw [g1, g2]⟩
            · exact ⟨_, _, g1⟩
          obtain ⟨oH, bH, hH⟩ := hsc.up1.map
          obtain ⟨W1, o1, hdel, hm1, ht1⟩ := mapG_del (P := Tryd.prog) (w := wc.drew) intKey Tryd.underlying58 Tryd.underlying3 bH hH h 0 3
          have hdel2 : (Builtin.delete_ #[58, 3] 0 #[.map (some r), .int .i64 h]).run Tryd.prog wc.drew = .ok (.tuple #[]) W1 := hdel
          have hs1 : Sep w W1 (winRes 65 2 (.slice pv x.q.length cv) x.q.length (wCells x.q) :: blkRes W.heap.size (.cells #[.int .i64 h] 3 (0, 0)) :: blkRes p (queObj r (.slice pv x.q.length cv)) :: mapRes mInt mInt (outL x.has h) r :: blkRes b (tabObj mT mW) :: mapRes mStr mPtr (namesOf (ta ++ (x, p) :: tb)) mT :: mapRes mInt mStr wl mW :: (queuesOf ta ++ (queuesOf tb ++ (rowRes 3 1 (.slice po (outS pre h).length qo) (outS pre h).length (intCells (outS pre h)) :: rowRes 9 1 (.slice (some ⟨g1, 0, none⟩) t.length q1) t.length (strCells (t.map (·.name))) :: l)))) :=
            (hsc.drew.up1.mapTurn ht1 hm1).reorder (by unfold outL delL; intro x; simp only [List.count_append, List.count_cons, List.count_nil, List.cons_append, List.nil_append, List.append_assoc]; omega)
          have p10 := cell_of_block hsc.blk 0 (v := .map (some r)) rfl
          have h10 := cell_of_block (hsc.blkOf (g := W.heap.size) (o := .cells #[.int .i64 h] 3 (0, 0)) (by simp [openL])) 0 (v := .int .i64 h) rfl
          have p11 := cell_of_block hs1.up2.blk 1 (v := .slice pv x.q.length cv) rfl
          have hdf := delf_rel (modes_len HX.out.q) hs1
          have HDF := Lib.hid hdf
          have HPI := Lib.hid (pinv_start HG.out HTE.out h HWK)
          clear hsc bH hH hm1 ht1 hs1 hdf hdel HHAD
          go_upto_region 10 with fail
          refine wp_region_last (S := (fun w' => w'.cell? ⟨p, 0, none⟩ = some (.map (some r)) ∧ w'.cell? ⟨W.heap.size, 0, none⟩ = some (.int .i64 h))) (by kernel_rfl) 5 _ rfl rfl rfl (by kernel_rfl) [4, 3, 2, 1, 0] (by kernel_rfl) (by kernel_rfl) ?_ (fun hHeld => ?_)
          · (try dsimp only); (first | go_keep | (refine ⟨?_, ?_⟩ <;> assumption))
          simp only [lull, List.setIfInBounds_toArray, List.set_cons_succ, List.set_cons_zero]
          refine wpAnyH_take (i := 0) (v := ?_) rfl (by kernel_rfl) (by kernel_rfl) (by kernel_rfl) (fun _ _ _ h => h) (Or.inl ⟨by rfl, ?_⟩) (by assumption) ?_
          rotate_left
          · (intro w hSw; (try dsimp only at hSw); go_simp; try with_reducible rfl)
          (try simp only [Act.put, List.setIfInBounds_toArray, List.set_cons_zero, List.set_cons_succ])
          refine wpAnyH_take (i := 1) (v := ?_) rfl (by kernel_rfl) (by kernel_rfl) (by kernel_rfl) (fun _ _ _ h => h) (Or.inl ⟨by rfl, ?_⟩) (by assumption) ?_
          rotate_left
          · (intro w hSw; (try dsimp only at hSw); go_simp; try with_reducible rfl)
          (try simp only [Act.put, List.setIfInBounds_toArray, List.set_cons_zero, List.set_cons_succ])
          refine wpAnyH_take (i := 2) (v := ?_) rfl (by kernel_rfl) (by kernel_rfl) (by kernel_rfl) (fun _ _ _ h => h) (Or.inl ⟨by rfl, ?_⟩) (by assumption) ?_
          rotate_left
          · (intro w hSw; (try dsimp only at hSw); go_simp; try with_reducible rfl)
          (try simp only [Act.put, List.setIfInBounds_toArray, List.set_cons_zero, List.set_cons_succ])
          refine wpAnyH_take (i := 3) (v := ?_) rfl (by kernel_rfl) (by kernel_rfl) (by kernel_rfl) (fun _ _ _ h => h) (Or.inl ⟨by rfl, ?_⟩) (by assumption) ?_
          rotate_left
          · (intro w hSw; (try dsimp only at hSw); go_simp; try with_reducible rfl)
          (try simp only [Act.put, List.setIfInBounds_toArray, List.set_cons_zero, List.set_cons_succ])
          refine wpAnyH_take (i := 4) (v := ?_) rfl (by kernel_rfl) (by kernel_rfl) (by kernel_rfl) (fun _ _ _ h => h) (Or.inl ⟨by rfl, ?_⟩) (by assumption) ?_
          rotate_left
          · (intro w hSw; (try dsimp only at hSw); go_simp; try with_reducible rfl)
          (try simp only [Act.put, List.setIfInBounds_toArray, List.set_cons_zero, List.set_cons_succ])
          refine wpAnyH_take (i := 5) (v := ?_) rfl (by kernel_rfl) (by kernel_rfl) (by kernel_rfl) (fun _ _ _ h => h) (Or.inl ⟨by rfl, ?_⟩) (by assumption) ?_
          rotate_left
          · (intro w hSw; (try dsimp only at hSw); go_simp; try with_reducible rfl)
          (try simp only [Act.put, List.setIfInBounds_toArray, List.set_cons_zero, List.set_cons_succ])
          refine wpAnyH_done (by kernel_rfl) ?_ _
          refine tail_run rfl rfl ?_
          clear hHeld
          go_simp
          go_upto_block 2 with (go_at_call 36; refine HDF.out.mono ?_; rintro e w3 ⟨p3, c3, rfl, hs3⟩; have k11 := cell_of_block hs3.up2.blk 1 (v := .slice pv x.q.length cv) rfl; have kf := free_of_block hs3.up2.blk 1; have HS3 := Lib.hid hs3; clear hs3)
          have HIN : Hid (Sep w (w3.setCell ⟨p, 1, none⟩ (.slice p3 (outL x.q h).length c3)) (rowRes 3 1 (.slice po (outS pre h).length qo) (outS pre h).length (intCells (outS pre h)) :: openL p r (.slice p3 (outL x.q h).length c3) (outL x.has h) (outL x.q h) b mT mW (namesOf (ta ++ (x, p) :: tb)) wl ta tb (rowRes 9 1 (.slice (some ⟨g1, 0, none⟩) t.length q1) t.length (strCells (t.map (·.name))) :: blkRes W.heap.size (.cells #[.int .i64 h] 3 (0, 0)) :: l))) := by
            have h1 := (HS3.out.up2).store 1 (.slice p3 (outL x.q h).length c3)
            simp only [List.setIfInBounds_toArray, List.set_cons_succ, List.set_cons_zero] at h1
            exact Lib.hid (h1.reorder (by unfold openL queObj; intro x; simp only [List.count_append, List.count_cons, List.count_nil, List.cons_append, List.nil_append, List.append_assoc]; omega))
          clear HS3 k11 kf HDF p11
          generalize w3.setCell ⟨p, 1, none⟩ (.slice p3 (outL x.q h).length c3) = w4 at *
          go_cut [5] (fun s5 wx => ∃ (po : Option Addr) (qo : Nat) (out : List Int) (hc qc : HM) (wlc : List (Int × ByteArray)) (pv : Option Addr) (cv : Nat), s5 = .slice po out.length qo ∧ PInv t (doneL pre h) rest h x.name (outS (pre ++ [x]) h) ((relT x h).2.has, (relT x h).2.q) hc qc out wlc pre.length ∧ (∀ y z, qc = y :: z → freeL hc y.1 y.2 = false) ∧ Sep w wx (rowRes 3 1 (.slice po out.length qo) out.length (intCells out) :: openL p r (.slice pv (List.length qc) cv) hc qc b mT mW (namesOf (ta ++ (x, p) :: tb)) wlc ta tb (rowRes 9 1 (.slice (some ⟨g1, 0, none⟩) t.length q1) t.length (strCells (t.map (·.name))) :: blkRes W.heap.size (.cells #[.int .i64 h] 3 (0, 0)) :: l)))
          case first =>
            clear p10 h10
            go_wp2_with fail
            go_loopg [5, 11] x.q.length (fun gg s5 _ wr => ∃ (po : Option Addr) (qo : Nat) (out : List Int) (hc qc : HM) (wlc : List (Int × ByteArray)) (pv : Option Addr) (cv : Nat), qc.length ≤ gg ∧ s5 = .slice po out.length qo ∧ Aside (PInv t (doneL pre h) rest h x.name (outS (pre ++ [x]) h) ((relT x h).2.has, (relT x h).2.q) hc qc out wlc pre.length) ∧ Aside (Sep w wr (rowRes 3 1 (.slice po out.length qo) out.length (intCells out) :: openL p r (.slice pv (List.length qc) cv) hc qc b mT mW (namesOf (ta ++ (x, p) :: tb)) wlc ta tb (rowRes 9 1 (.slice (some ⟨g1, 0, none⟩) t.length q1) t.length (strCells (t.map (·.name))) :: blkRes W.heap.size (.cells #[.int .i64 h] 3 (0, 0)) :: l))))
            case atStart => exact ⟨po, qo, outS pre h, outL x.has h, outL x.q h, wl, p3, c3, List.length_filter_le _ _, rfl, HPI.out, HIN.out⟩
            case round =>
              clear HIN HPI
              obtain ⟨po, qo, out, hc, qc, wlc, pv, cv, hgg2, rfl, HPV, HSV⟩ := hrel
              obtain ⟨wi, hwi⟩ : ∃ wi, wi = wr := ⟨_, rfl⟩
              subst hwi
              have hpv : PInv t (doneL pre h) rest h x.name (outS (pre ++ [x]) h) ((relT x h).2.has, (relT x h).2.q) hc qc out wlc pre.length := HPV
              have hsv : Sep w wi (rowRes 3 1 (.slice po out.length qo) out.length (intCells out) :: openL p r (.slice pv (List.length qc) cv) hc qc b mT mW (namesOf (ta ++ (x, p) :: tb)) wlc ta tb (rowRes 9 1 (.slice (some ⟨g1, 0, none⟩) t.length q1) t.length (strCells (t.map (·.name))) :: blkRes W.heap.size (.cells #[.int .i64 h] 3 (0, 0)) :: l)) := HSV
              have hpb := hsv.up1.blk
              have p1c := cell_of_block hpb 1 (v := .slice pv qc.length cv) rfl
              cases qc with
              | nil =>
                have HFIN : Hid (∀ n, Sep w (wi.drewN n) (rowRes 3 1 (.slice po out.length qo) out.length (intCells out) :: openL p r (.slice pv (List.length []) cv) hc [] b mT mW (namesOf (ta ++ (x, p) :: tb)) wlc ta tb (rowRes 9 1 (.slice (some ⟨g1, 0, none⟩) t.length q1) t.length (strCells (t.map (·.name))) :: blkRes W.heap.size (.cells #[.int .i64 h] 3 (0, 0)) :: l))) := Lib.hid (fun n => hsv.only (Only.drewN [] wi n))
                have HPE := Lib.hid hpv
                clear hsv hpv hpb HSV HPV
                go_wp2_with fail
                go_quiet (fail)
                go_wp2_with fail
                go_meet
                exact ⟨po, qo, out, hc, [], wlc, pv, cv, rfl, HPE.out, (fun y z e => by cases e), HFIN.out _⟩
              | cons y z =>
                obtain ⟨y1, y2⟩ := y
                obtain ⟨g, o, rfl⟩ : ∃ g o, pv = some ⟨g, o, none⟩ := by
                  rcases (hsv.tail.up2).win with ⟨_, g2, _⟩ | ⟨g, o, cap, cur, P0, S0, g3, _⟩
                  · simp at g2
                  · simp only [Value.slice.injEq] at g3; exact ⟨g, o, g3.1⟩
                obtain ⟨curw, hgb, cw0, cw1, hcapn, hcmx⟩ : ∃ curw, wi.heap[g]? = some (.cells curw 65 (0, 0)) ∧ curw[o]? = some (.int .i64 y1) ∧ curw[o + 1]? = some (.int .i64 y2) ∧ z.length + 1 ≤ cv ∧ cv ≤ 9223372036854775807 := by
                  rcases (hsv.tail.up2).win with ⟨g2, _⟩ | ⟨g', o', cap, cur, P0, S0, g3, hw⟩
                  · cases g2
                  · simp only [Value.slice.injEq, Option.some.injEq, Addr.mk.injEq] at g3
                    obtain ⟨⟨rfl, rfl, _⟩, _, rfl⟩ := g3
                    have h1 := hw.max
                    unfold maxLen at h1
                    exact ⟨cur, hw.blk, by have := hw.get (j := 0) (u := .int .i64 y1) rfl; simpa using this, hw.get (j := 1) (u := .int .i64 y2) rfl, by have := hw.le; simpa using this, by omega⟩
                obtain ⟨NQ, hNQ⟩ : ∃ NQ, NQ = z.length + 1 := ⟨_, rfl⟩
                have p1d : wi.cell? ⟨p, 1, none⟩ = some (.slice (some ⟨g, o, none⟩) NQ cv) := by rw [hNQ]; exact p1c
                clear p1c
                have cc0 := cell_of_block hgb o cw0
                have cc1 := cell_of_block hgb (o + 1) cw1
                obtain ⟨fr, hfr⟩ : ∃ fr, fr = freeL hc y1 y2 := ⟨_, rfl⟩
                have hy2 := (hpv.mq.2 (y1, y2) (by simp)).2.2
                have hsq : Sep w wi (queueRes p hc ((y1, y2) :: z) :: (rowRes 3 1 (.slice po out.length qo) out.length (intCells out) :: blkRes b (tabObj mT mW) :: mapRes mStr mPtr (namesOf (ta ++ (x, p) :: tb)) mT :: mapRes mInt mStr wlc mW :: (queuesOf ta ++ (queuesOf tb ++ (rowRes 9 1 (.slice (some ⟨g1, 0, none⟩) t.length q1) t.length (strCells (t.map (·.name))) :: blkRes W.heap.size (.cells #[.int .i64 h] 3 (0, 0)) :: l))))) := by
                  refine Sep.close (ps := queueParts p hc ((y1, y2) :: z)) (Q := fun _ => True) (r, .slice (some ⟨g, o, none⟩) ((y1, y2) :: z).length cv) (hsv.reorder ?_) trivial
                  unfold openL queueParts queObj
                  intro x
                  simp only [List.count_append, List.count_cons, List.count_nil, List.cons_append, List.nil_append, List.append_assoc]
                  omega
                have HFREE : Hid (∀ V, Only [] wi V → Calls Tryd.prog 28 #[.pointer (some ⟨p, 0, none⟩), .int .i64 y1, .int .i64 y2] V fun e W' => e = .returned (.bool fr) ∧ Only [] wi W' ∧ W'.cell? ⟨p, 1, none⟩ = some (.slice (some ⟨g, o, none⟩) NQ cv) ∧ W'.cell? ⟨g, o, none⟩ = some (.int .i64 y1) ∧ W'.cell? ⟨g, o + 1, none⟩ = some (.int .i64 y2)) := by
                  refine Lib.hid fun V hV => (free_any hpv.mh y1 y2 hy2 (HTOG.out.only (hsv.old.trans hV (Within.nil _ _))) (hsq.only hV)).mono ?_
                  rintro e W' ⟨rfl, ho⟩
                  have ho2 := hV.trans ho (Within.nil _ _)
                  refine ⟨by rw [hfr], ho2, ?_, cell_of_block (ho2.keeps hgb (by simp)) o cw0, cell_of_block (ho2.keeps hgb (by simp)) (o + 1) cw1⟩
                  exact cell_of_block (ho2.keeps hpb (by simp)) 1 (by rw [hNQ]; rfl)
                have HPV2 := Lib.hid hpv
                have HSV2 := Lib.hid hsv
                have HFR := Lib.hid hfr
                have HNQ := Lib.hid hNQ
                have HGB := Lib.hid hgb
                have HCW := Lib.hid (And.intro cw0 cw1)
                have HPB := Lib.hid hpb
                have n1 : (0 : Int) < (NQ : Int) := by omega
                have n2 : 0 < NQ := by omega
                have ncap : NQ ≤ cv := by omega
                clear hpv hsv HPV HSV hpb hsq hfr hNQ hgb cw0 cw1 hy2
                go_upto_region 12 with fail
                go_cut [85] (fun s85 wx => s85 = .bool fr ∧ Only [] wi wx)
                case first =>
                  go_region_held3 (fun w' => w'.cell? ⟨p, 1, none⟩ = some (.slice (some ⟨g, o, none⟩) NQ cv) ∧ w'.cell? ⟨g, o, none⟩ = some (.int .i64 y1) ∧ w'.cell? ⟨g, o + 1, none⟩ = some (.int .i64 y2)) (first | go_keep | (refine ⟨?_, ?_, ?_⟩ <;> assumption)) (first | (go_at_call 28; refine (HFREE.out _ (by first | exact Only.refl _ _ | exact Only.drew [] _ | exact Only.drewN [] _ _)).mono ?_; rintro e w5 ⟨rfl, ho5, k1, k2, k3⟩))
                  all_goals
                    go_wp2_with fail
                    go_meet
                    exact ⟨rfl, ho5⟩
                case rest =>
                  obtain ⟨rfl, hox⟩ := hcut
                  have hsx := HSV2.out.only hox
                  clear HFREE p1d cc0 cc1
                  cases fr with
                  | false =>
                    have HFIN := Lib.hid hsx
                    clear hsx hox
                    go_wp2_with fail
                    go_meet
                    refine ⟨po, qo, out, hc, (y1, y2) :: z, wlc, some ⟨g, o, none⟩, cv, rfl, HPV2.out, fun y z' e => ?_, HFIN.out⟩
                    cases e
                    exact HFR.out.symm
                  | true =>
                    have hpst := pinv_step HPV2.out HFR.out.symm
                    have HPST := Lib.hid hpst
                    have hol : out.length ≤ 1000000 := by
                      have h1 := HPV2.out.len
                      have h2 : pre.length ≤ 256 := by omega
                      have h3 : 1001 * (pre.length + 1) ≤ 1001 * 257 := Nat.mul_le_mul_left _ (by omega)
                      omega
                    have p1x := cell_of_block (hox.keeps HPB.out (by simp)) 1 (v := .slice (some ⟨g, o, none⟩) NQ cv) (by rw [HNQ.out]; rfl)
                    have e0 := cell_of_block (hox.keeps HGB.out (by simp)) o HCW.out.1
                    have e1 := cell_of_block (hox.keeps HGB.out (by simp)) (o + 1) HCW.out.2
                    have hs6 := hsx.alloc #[.int .i64 y1, .int .i64 y2] 65
                    obtain ⟨wb, hwb⟩ : ∃ wb, wb = wc.heap.size := ⟨_, rfl⟩
                    obtain ⟨V, hV⟩ : ∃ V, V = wc.alloc (.cells #[.int .i64 y1, .int .i64 y2] 65) := ⟨_, rfl⟩
                    rw [← hV, ← hwb] at hs6
                    have HV := Lib.hid hV
                    have HWB := Lib.hid hwb
                    have w0 := cell_of_block hs6.blk 0 (v := .int .i64 y1) rfl
                    have w1 := cell_of_block hs6.blk 1 (v := .int .i64 y2) rfl
                    have pV := cell_of_block hs6.up2.blk 0 (v := .map (some r)) rfl
                    obtain ⟨oV, bV, hVm⟩ := hs6.up3.map
                    obtain ⟨W7, o7, hupd, hm7, ht7⟩ := mapG_upd (P := Tryd.prog) (w := V.drew) intKey Tryd.underlying58 Tryd.underlying3 bV hVm y1 y2
                    have hupd2 : (Instr.mapUpdate 58 (.map (some r)) (.int .i64 y1) (.int .i64 y2)).run Tryd.prog V.drew = .ok () W7 := hupd
                    have hs7 := (hs6.drew.up3.mapTurn ht7 hm7)
                    clear hupd
                    have HS7 := Lib.hid (show Sep w W7 (blkRes p (queObj r (.slice (some ⟨g, o, none⟩) (z.length + 1) cv)) :: winRes 65 2 (.slice (some ⟨g, o, none⟩) (z.length + 1) cv) (z.length + 1) (wCells ((y1, y2) :: z)) :: blkRes wb (.cells #[.int .i64 y1, .int .i64 y2] 65 (0, 0)) :: rowRes 3 1 (.slice po out.length qo) out.length (intCells out) :: mapRes mInt mInt (putL hc y1 y2) r :: blkRes b (tabObj mT mW) :: mapRes mStr mPtr (namesOf (ta ++ (x, p) :: tb)) mT :: mapRes mInt mStr wlc mW :: (queuesOf ta ++ (queuesOf tb ++ (rowRes 9 1 (.slice (some ⟨g1, 0, none⟩) t.length q1) t.length (strCells (t.map (·.name))) :: blkRes W.heap.size (.cells #[.int .i64 h] 3 (0, 0)) :: l)))) from hs7.reorder (by unfold putL outL updL; intro x; simp only [List.count_append, List.count_cons, List.count_nil, List.cons_append, List.nil_append, List.append_assoc, List.length_cons]; omega))
                    clear hV hwb hs6 bV hVm hm7 ht7 hs7 hsx hox hpst HSV2 HPV2 HGB HCW HPB
                    go_upto_region 14 with fail
                    rw [← HV.out, ← HWB.out]
                    clear p1x e0 e1
                    refine wp_region_last (S := (fun w' => w'.cell? ⟨p, 0, none⟩ = some (.map (some r)) ∧ w'.cell? ⟨wb, 0, none⟩ = some (.int .i64 y1) ∧ w'.cell? ⟨wb, 1, none⟩ = some (.int .i64 y2))) (by kernel_rfl) 8 _ rfl rfl rfl (by kernel_rfl) [7, 6, 5, 4, 3, 2, 1, 0] (by kernel_rfl) (by kernel_rfl) ?_ (fun hHeld => ?_)
                    · (try dsimp only); (first | go_keep | (refine ⟨?_, ?_, ?_⟩ <;> assumption))
                    simp only [lull, List.setIfInBounds_toArray, List.set_cons_succ, List.set_cons_zero]
                    refine wpAnyH_take (i := 0) (v := ?_) rfl (by kernel_rfl) (by kernel_rfl) (by kernel_rfl) (fun _ _ _ h => h) (Or.inl ⟨by rfl, ?_⟩) (by assumption) ?_
                    rotate_left
                    · (intro w hSw; (try dsimp only at hSw); go_simp; try with_reducible rfl)
                    (try simp only [Act.put, List.setIfInBounds_toArray, List.set_cons_zero, List.set_cons_succ])
                    refine wpAnyH_take (i := 1) (v := ?_) rfl (by kernel_rfl) (by kernel_rfl) (by kernel_rfl) (fun _ _ _ h => h) (Or.inl ⟨by rfl, ?_⟩) (by assumption) ?_
                    rotate_left
                    · (intro w hSw; (try dsimp only at hSw); go_simp; try with_reducible rfl)
                    (try simp only [Act.put, List.setIfInBounds_toArray, List.set_cons_zero, List.set_cons_succ])
                    refine wpAnyH_take (i := 2) (v := ?_) rfl (by kernel_rfl) (by kernel_rfl) (by kernel_rfl) (fun _ _ _ h => h) (Or.inl ⟨by rfl, ?_⟩) (by assumption) ?_
                    rotate_left
                    · (intro w hSw; (try dsimp only at hSw); go_simp; try with_reducible rfl)
                    (try simp only [Act.put, List.setIfInBounds_toArray, List.set_cons_zero, List.set_cons_succ])
                    refine wpAnyH_take (i := 3) (v := ?_) rfl (by kernel_rfl) (by kernel_rfl) (by kernel_rfl) (fun _ _ _ h => h) (Or.inl ⟨by rfl, ?_⟩) (by assumption) ?_
                    rotate_left
                    · (intro w hSw; (try dsimp only at hSw); go_simp; try with_reducible rfl)
                    (try simp only [Act.put, List.setIfInBounds_toArray, List.set_cons_zero, List.set_cons_succ])
                    refine wpAnyH_take (i := 4) (v := ?_) rfl (by kernel_rfl) (by kernel_rfl) (by kernel_rfl) (fun _ _ _ h => h) (Or.inl ⟨by rfl, ?_⟩) (by assumption) ?_
                    rotate_left
                    · (intro w hSw; (try dsimp only at hSw); go_simp; try with_reducible rfl)
                    (try simp only [Act.put, List.setIfInBounds_toArray, List.set_cons_zero, List.set_cons_succ])
                    refine wpAnyH_take (i := 5) (v := ?_) rfl (by kernel_rfl) (by kernel_rfl) (by kernel_rfl) (fun _ _ _ h => h) (Or.inl ⟨by rfl, ?_⟩) (by assumption) ?_
                    rotate_left
                    · (intro w hSw; (try dsimp only at hSw); go_simp; try with_reducible rfl)
                    (try simp only [Act.put, List.setIfInBounds_toArray, List.set_cons_zero, List.set_cons_succ])
                    refine wpAnyH_take (i := 6) (v := ?_) rfl (by kernel_rfl) (by kernel_rfl) (by kernel_rfl) (fun _ _ _ h => h) (Or.inl ⟨by rfl, ?_⟩) (by assumption) ?_
                    rotate_left
                    · (intro w hSw; (try dsimp only at hSw); go_simp; try with_reducible rfl)
                    (try simp only [Act.put, List.setIfInBounds_toArray, List.set_cons_zero, List.set_cons_succ])
                    refine wpAnyH_take (i := 7) (v := ?_) rfl (by kernel_rfl) (by kernel_rfl) (by kernel_rfl) (fun _ _ _ h => h) (Or.inl ⟨by rfl, ?_⟩) (by assumption) ?_
                    rotate_left
                    · (intro w hSw; (try dsimp only at hSw); go_simp; try with_reducible rfl)
                    (try simp only [Act.put, List.setIfInBounds_toArray, List.set_cons_zero, List.set_cons_succ])
                    refine wpAnyH_take (i := 8) (v := ?_) rfl (by kernel_rfl) (by kernel_rfl) (by kernel_rfl) (fun _ _ _ h => h) (Or.inl ⟨by rfl, ?_⟩) (by assumption) ?_
                    rotate_left
                    · (intro w hSw; (try dsimp only at hSw); go_simp; try with_reducible rfl)
                    (try simp only [Act.put, List.setIfInBounds_toArray, List.set_cons_zero, List.set_cons_succ])
                    refine wpAnyH_done (by kernel_rfl) ?_ _
                    refine tail_run rfl rfl ?_
                    clear hHeld
                    go_simp
                    have p17 := cell_of_block HS7.out.blk 1 (v := .slice (some ⟨g, o, none⟩) NQ cv) (by rw [HNQ.out]; rfl)
                    have f17 := free_of_block HS7.out.blk 1
                    clear w0 w1 pV hupd2
                    obtain ⟨o', ho'⟩ : ∃ o', o' = if cv = 1 then o else o + 2 := ⟨_, rfl⟩
                    have hs8 := (HS7.out).store 1 (.slice (some ⟨g, o', none⟩) z.length (cv - 1))
                    simp only [List.setIfInBounds_toArray, List.set_cons_succ, List.set_cons_zero] at hs8
                    have hs9 := win_next hs8.up1 ho'
                    obtain ⟨W8, hW8⟩ : ∃ W8, W8 = W7.setCell ⟨p, 1, none⟩ (.slice (some ⟨g, o', none⟩) z.length (cv - 1)) := ⟨_, rfl⟩
                    rw [← hW8] at hs9
                    have hwd : (wCells ((y1, y2) :: z)).drop 2 = wCells z := rfl
                    rw [hwd] at hs9
                    have HS9 := Lib.hid (show Sep w W8 (blkRes wb (.cells #[.int .i64 y1, .int .i64 y2] 65 (0, 0)) :: rowRes 3 1 (.slice po out.length qo) out.length (intCells out) :: openL p r (.slice (some ⟨g, o', none⟩) z.length (cv - 1)) (putL hc y1 y2) z b mT mW (namesOf (ta ++ (x, p) :: tb)) wlc ta tb (rowRes 9 1 (.slice (some ⟨g1, 0, none⟩) t.length q1) t.length (strCells (t.map (·.name))) :: blkRes W.heap.size (.cells #[.int .i64 h] 3 (0, 0)) :: l)) from hs9.reorder (by unfold openL queObj; intro x; simp only [List.count_append, List.count_cons, List.count_nil, List.cons_append, List.nil_append, List.append_assoc]; omega))
                    have HW8 := Lib.hid hW8
                    have HO' := Lib.hid ho'
                    clear hs8 hs9 hW8 hwd ho'
                    have n3 : (1 : Int) ≤ (NQ : Int) := by omega
                    have n4 : (1 : Int) ≤ (cv : Int) := by omega
                    have n5 : 1 ≤ cv := by omega
                    have n6 : 1 ≤ NQ := by omega
                    go_upto_region 16 with fail
                    have hif : (if cv = 1 then some (⟨g, o, none⟩ : Addr) else some ⟨g, o + 2, none⟩) = some ⟨g, o', none⟩ := by rw [HO'.out]; split <;> rfl
                    rw [hif, show NQ - 1 = z.length from by have := HNQ.out; omega, ← HW8.out]
                    clear hif p17 f17
                    have b9 := cell_of_block (HS9.out.blkOf (g := b) (o := tabObj mT mW) (by simp [openL])) 1 (v := .map (some mW)) rfl
                    have w9 := cell_of_block HS9.out.blk 0 (v := .int .i64 y1) rfl
                    obtain ⟨oW, bW, hWm⟩ := HS9.out.mapOf (mk := mInt) (mv := mStr) (ks := wlc) (r := mW) (by simp [openL])
                    obtain ⟨W9, o9, hdl, hm9, ht9⟩ := mapG_del (P := Tryd.prog) (w := W8.drew) intKey Tryd.underlying54 Tryd.underlying3 bW hWm y1 0 3
                    have hdl2 : (Builtin.delete_ #[54, 3] 0 #[.map (some mW), .int .i64 y1]).run Tryd.prog W8.drew = .ok (.tuple #[]) W9 := hdl
                    have hs10 : Sep w W8 (mapRes mInt mStr wlc mW :: (blkRes wb (.cells #[.int .i64 y1, .int .i64 y2] 65 (0, 0)) :: rowRes 3 1 (.slice po out.length qo) out.length (intCells out) :: blkRes p (queObj r (.slice (some ⟨g, o', none⟩) z.length (cv - 1))) :: mapRes mInt mInt (putL hc y1 y2) r :: winRes 65 2 (.slice (some ⟨g, o', none⟩) z.length (cv - 1)) z.length (wCells z) :: blkRes b (tabObj mT mW) :: mapRes mStr mPtr (namesOf (ta ++ (x, p) :: tb)) mT :: (queuesOf ta ++ (queuesOf tb ++ (rowRes 9 1 (.slice (some ⟨g1, 0, none⟩) t.length q1) t.length (strCells (t.map (·.name))) :: blkRes W.heap.size (.cells #[.int .i64 h] 3 (0, 0)) :: l))))) := HS9.out.reorder (by unfold openL; intro x; simp only [List.count_append, List.count_cons, List.count_nil, List.cons_append, List.nil_append, List.append_assoc]; omega)
                    have hs11 := hs10.drew.mapTurn ht9 hm9
                    have w10 := cell_of_block hs11.up1.blk 0 (v := .int .i64 y1) rfl
                    have HS11 := Lib.hid (show Sep w W9 (rowRes 3 1 (.slice po out.length qo) out.length (intCells out) :: openL p r (.slice (some ⟨g, o', none⟩) z.length (cv - 1)) (putL hc y1 y2) z b mT mW (namesOf (ta ++ (x, p) :: tb)) (delL wlc y1) ta tb (rowRes 9 1 (.slice (some ⟨g1, 0, none⟩) t.length q1) t.length (strCells (t.map (·.name))) :: blkRes W.heap.size (.cells #[.int .i64 h] 3 (0, 0)) :: blkRes wb (.cells #[.int .i64 y1, .int .i64 y2] 65 (0, 0)) :: l)) from hs11.reorder (by unfold openL; intro x; simp only [List.count_append, List.count_cons, List.count_nil, List.cons_append, List.nil_append, List.append_assoc]; omega))
                    clear hdl bW hWm hm9 ht9 hs10 hs11 HS9 HS7 n3 n4 n5 n6
                    refine wp_region_last (S := (fun w' => w'.cell? ⟨b, 1, none⟩ = some (.map (some mW)) ∧ w'.cell? ⟨wb, 0, none⟩ = some (.int .i64 y1))) (by kernel_rfl) 6 _ rfl rfl rfl (by kernel_rfl) [5, 4, 3, 2, 1, 0] (by kernel_rfl) (by kernel_rfl) ?_ (fun hHeld => ?_)
                    · (try dsimp only); (first | go_keep | (refine ⟨?_, ?_⟩ <;> assumption))
                    simp only [lull, List.setIfInBounds_toArray, List.set_cons_succ, List.set_cons_zero]
                    refine wpAnyH_take (i := 0) (v := ?_) rfl (by kernel_rfl) (by kernel_rfl) (by kernel_rfl) (fun _ _ _ h => h) (Or.inl ⟨by rfl, ?_⟩) (by assumption) ?_
                    rotate_left
                    · (intro w hSw; (try dsimp only at hSw); go_simp; try with_reducible rfl)
                    (try simp only [Act.put, List.setIfInBounds_toArray, List.set_cons_zero, List.set_cons_succ])
                    refine wpAnyH_take (i := 1) (v := ?_) rfl (by kernel_rfl) (by kernel_rfl) (by kernel_rfl) (fun _ _ _ h => h) (Or.inl ⟨by rfl, ?_⟩) (by assumption) ?_
                    rotate_left
                    · (intro w hSw; (try dsimp only at hSw); go_simp; try with_reducible rfl)
                    (try simp only [Act.put, List.setIfInBounds_toArray, List.set_cons_zero, List.set_cons_succ])
                    refine wpAnyH_take (i := 2) (v := ?_) rfl (by kernel_rfl) (by kernel_rfl) (by kernel_rfl) (fun _ _ _ h => h) (Or.inl ⟨by rfl, ?_⟩) (by assumption) ?_
                    rotate_left
                    · (intro w hSw; (try dsimp only at hSw); go_simp; try with_reducible rfl)
                    (try simp only [Act.put, List.setIfInBounds_toArray, List.set_cons_zero, List.set_cons_succ])
                    refine wpAnyH_take (i := 3) (v := ?_) rfl (by kernel_rfl) (by kernel_rfl) (by kernel_rfl) (fun _ _ _ h => h) (Or.inl ⟨by rfl, ?_⟩) (by assumption) ?_
                    rotate_left
                    · (intro w hSw; (try dsimp only at hSw); go_simp; try with_reducible rfl)
                    (try simp only [Act.put, List.setIfInBounds_toArray, List.set_cons_zero, List.set_cons_succ])
                    refine wpAnyH_take (i := 4) (v := ?_) rfl (by kernel_rfl) (by kernel_rfl) (by kernel_rfl) (fun _ _ _ h => h) (Or.inl ⟨by rfl, ?_⟩) (by assumption) ?_
                    rotate_left
                    · (intro w hSw; (try dsimp only at hSw); go_simp; try with_reducible rfl)
                    (try simp only [Act.put, List.setIfInBounds_toArray, List.set_cons_zero, List.set_cons_succ])
                    refine wpAnyH_take (i := 5) (v := ?_) rfl (by kernel_rfl) (by kernel_rfl) (by kernel_rfl) (fun _ _ _ h => h) (Or.inl ⟨by rfl, ?_⟩) (by assumption) ?_
                    rotate_left
                    · (intro w hSw; (try dsimp only at hSw); go_simp; try with_reducible rfl)
                    (try simp only [Act.put, List.setIfInBounds_toArray, List.set_cons_zero, List.set_cons_succ])
                    refine wpAnyH_take (i := 6) (v := ?_) rfl (by kernel_rfl) (by kernel_rfl) (by kernel_rfl) (fun _ _ _ h => h) (Or.inl ⟨by rfl, ?_⟩) (by assumption) ?_
                    rotate_left
                    · (intro w hSw; (try dsimp only at hSw); go_simp; try with_reducible rfl)
                    (try simp only [Act.put, List.setIfInBounds_toArray, List.set_cons_zero, List.set_cons_succ])
                    refine wpAnyH_done (by kernel_rfl) ?_ _
                    refine tail_run rfl rfl ?_
                    clear hHeld
                    go_simp
                    go_wp2_with (at_builtin; go_must (refine wpList_append_sep (w := w) (e := 3) rfl (.tmp 114) (.tmp 117) 37 rfl ii _ 1 8 Tryd.underlying37 II.out rfl (by decide) (.slice po out.length qo) out.length (intCells out) rfl rfl rfl rfl (by simp [Value.oneCell']) HS11.out (by unfold maxLen; omega) (by omega) ?_))
                    intro p2 q2 w12 hs12
                    have HFIN : Hid (Sep w w12 (rowRes 3 1 (.slice p2 (out ++ [y1]).length q2) (out ++ [y1]).length (intCells (out ++ [y1])) :: openL p r (.slice (some ⟨g, o', none⟩) z.length (cv - 1)) (putL hc y1 y2) z b mT mW (namesOf (ta ++ (x, p) :: tb)) (delL wlc y1) ta tb (rowRes 9 1 (.slice (some ⟨g1, 0, none⟩) t.length q1) t.length (strCells (t.map (·.name))) :: blkRes W.heap.size (.cells #[.int .i64 h] 3 (0, 0)) :: l))) := by
                      have e5 : (out ++ [y1]).length = out.length + 1 := by simp
                      have e6 : intCells (out ++ [y1]) = intCells out ++ (#[Value.int .i64 y1] : Array Value).toList := by simp [intCells]
                      rw [e5, e6]
                      have h1 : Sep w w12 (blkRes wb (.cells #[.int .i64 y1, .int .i64 y2] 65 (0, 0)) :: rowRes 3 1 (.slice p2 (out.length + 1) q2) (out.length + 1) (intCells out ++ (#[Value.int .i64 y1] : Array Value).toList) :: openL p r (.slice (some ⟨g, o', none⟩) z.length (cv - 1)) (putL hc y1 y2) z b mT mW (namesOf (ta ++ (x, p) :: tb)) (delL wlc y1) ta tb (rowRes 9 1 (.slice (some ⟨g1, 0, none⟩) t.length q1) t.length (strCells (t.map (·.name))) :: blkRes W.heap.size (.cells #[.int .i64 h] 3 (0, 0)) :: l)) := hs12.reorder (by unfold openL; intro x; simp only [List.count_append, List.count_cons, List.count_nil, List.cons_append, List.nil_append, List.append_assoc]; omega)
                      exact Lib.hid h1.tail
                    clear hs12 HS11 w9 b9 w10 hdl2
                    go_wp2_with fail
                    go_roundg z.length
                    case measure => simp at hgg2; omega
                    case rel => exact ⟨p2, q2, out ++ [y1], putL hc y1 y2, z, delL wlc y1, some ⟨g, o', none⟩, cv - 1, Nat.le_refl _, by simp, HPST.out, HFIN.out⟩
          case rest =>
            obtain ⟨po, qo, out, hc, qc, wlc, pv, cv, rfl, hpv, hgo, hsv⟩ := hcut
            obtain ⟨hO1, hF1⟩ := pinv_end hpv hgo
            have hmh := modes_len1 hpv.mh
            have hmq := modes_len1 hpv.mq
            have hrel : (relT x h).2 = ⟨x.name, hc, qc⟩ := by
              have e1 := relT_name x h
              have e2 := congrArg Prod.fst hF1
              have e3 := congrArg Prod.snd hF1
              generalize (relT x h).2 = u at *
              obtain ⟨u1, u2, u3⟩ := u
              simp only at e1 e2 e3
              subst e1 e2 e3
              rfl
            have pb0 := cell_of_block hsv.up1.blk 0 (v := .map (some r)) rfl
            have pb1 := cell_of_block hsv.up1.blk 1 (v := .slice pv qc.length cv) rfl
            have hlen : ∀ ty n, (Builtin.len_ #[58] ty #[.map (some r)]).run Tryd.prog (wc.drewN n) = .ok (.int .i64 hc.length) (wc.drewN n) := fun ty n => by
              obtain ⟨oH, bH, hH⟩ := hsv.up2.map
              exact mapG_len (w := wc.drewN n) Tryd.underlying58 bH hH ty
            have HSV := Lib.hid hsv
            have HPV := Lib.hid hpv
            have HREL := Lib.hid hrel
            have HO1 := Lib.hid hO1
            obtain ⟨nh, hnh⟩ : ∃ nh, nh = hc.length := ⟨_, rfl⟩
            obtain ⟨nq2, hnq⟩ : ∃ nq2, nq2 = qc.length := ⟨_, rfl⟩
            rw [← hnq] at pb1 hmq
            rw [← hnh] at hmh
            simp only [← hnh] at hlen
            have HNH := Lib.hid hnh
            have HNQ := Lib.hid hnq
            clear hsv hpv hrel hO1 hF1 hgo hnh hnq HIN HPI p10 h10
            have hwz : IntKind.i64.wrap ((nh : Int) + (nq2 : Int)) = (nh : Int) + (nq2 : Int) := IntWalk.i64_in _ (by omega)
            by_cases hz : nh + nq2 = 0
            · have hzz : ((nh : Int) + (nq2 : Int)) = 0 := by omega
              have hhc : hc = [] := List.eq_nil_of_length_eq_zero (by rw [← HNH.out]; omega)
              have hqc : qc = [] := List.eq_nil_of_length_eq_zero (by rw [← HNQ.out]; omega)
              subst hhc hqc
              have hnf : fullT (relT x h).2 = false := by rw [HREL.out]; rfl
              have hdone : doneL (pre ++ [x]) h = doneL pre h := by rw [done_snoc, hnf]; simp
              have HDONE := Lib.hid hdone
              clear hdone hnf
              go_upto_region 18 with fail
              go_quiet (fail)
              have hsd := HSV.out.only (Only.drewN [] wc nq)
              generalize wc.drewN nq = wd at *
              clear pb0 pb1
              have b0 := cell_of_block (hsd.blkOf (g := b) (o := tabObj mT mW) (by simp [openL])) 0 (v := .map (some mT)) rfl
              obtain ⟨oN, bN, hN⟩ := hsd.mapOf (mk := mStr) (mv := mPtr) (ks := (namesOf (ta ++ (x, p) :: tb))) (r := mT) (by simp [openL])
              obtain ⟨W9, o9, hdl, hm9, ht9⟩ := mapG_del (P := Tryd.prog) (w := wd) strKey Tryd.underlying53 Tryd.underlying9 bN hN x.name 0 9
              have hnn : ∀ y ∈ ta ++ tb, y.1.name ≠ x.name := by
                have hnd := hN.nodup
                unfold namesOf at hnd
                rw [List.map_map, List.map_append, List.map_cons] at hnd
                have hq := List.nodup_append.1 hnd
                intro y hy e
                rcases List.mem_append.1 hy with q | q
                · exact hq.2.2 _ (List.mem_map.2 ⟨y, q, rfl⟩) _ (List.mem_cons_self ..) e
                · exact (List.nodup_cons.1 hq.2.1).1 (List.mem_map.2 ⟨y, q, e⟩)
              have hso2 : Sep w wd (openL p r (.slice pv (List.length ([] : HM)) cv) [] [] b mT mW (namesOf (ta ++ (x, p) :: tb)) wlc ta tb (rowRes 3 1 (.slice po out.length qo) out.length (intCells out) :: rowRes 9 1 (.slice (some ⟨g1, 0, none⟩) t.length q1) t.length (strCells (t.map (·.name))) :: blkRes W.heap.size (.cells #[.int .i64 h] 3 (0, 0)) :: l)) := hsd.reorder (by unfold openL; intro x; simp only [List.count_append, List.count_cons, List.count_nil, List.cons_append, List.nil_append, List.append_assoc]; omega)
              have hfin := mid_drop hso2 hnn ht9 hm9
              have HFIN : Hid (t = (pre ++ [x]) ++ rest ∧ outS (pre ++ [x]) h = out ∧ WOk t (doneL (pre ++ [x]) h ++ rest) h wlc ∧ Sep w W9 (rowRes 3 1 (.slice po out.length qo) out.length (intCells out) :: midRes b (doneL (pre ++ [x]) h ++ rest) wlc :: rowRes 9 1 (.slice (some ⟨g1, 0, none⟩) t.length q1) t.length (strCells (t.map (·.name))) :: blkRes W.heap.size (.cells #[.int .i64 h] 3 (0, 0)) :: l)) := by
                refine Lib.hid ⟨by rw [HTE.out]; simp, HO1.out, ?_, ?_⟩
                · rw [HDONE.out]
                  refine wok_same HPV.out.ok fun a n hne => ?_
                  rw [mem_mid, waitsL_app, List.mem_append]
                  simp
                · rw [HDONE.out]
                  rw [HTA.out, HTB.out] at hfin
                  exact hfin.up1
              have HDL := Lib.hid hdl
              clear hsd hso2 bN hN hm9 ht9 hnn hfin hdl HSV HPV
              go_wp2_with (refine wpList_delete_run _ rfl _ _ _ _ rfl _ _ rfl rfl HDL.out ?_)
              go_roundg (t.length - (pre.length + 1))
              case measure => omega
              case rel => exact ⟨pre ++ [x], rest, po, qo, wlc, by simp, by simp, by rw [HFIN.out.2.1], HFIN.out.1, HFIN.out.2.2.1, (by rw [HFIN.out.2.1]; exact HFIN.out.2.2.2)⟩
            · have hzz : ¬ ((nh : Int) + (nq2 : Int)) = 0 := by omega
              have hnf : fullT (relT x h).2 = true := by
                rw [HREL.out]
                cases hcc : hc with
                | nil =>
                  cases hqq : qc with
                  | nil =>
                    exfalso
                    have h1 := HNH.out
                    have h2 := HNQ.out
                    rw [hcc] at h1
                    rw [hqq] at h2
                    simp at h1 h2
                    omega
                  | cons a b => rfl
                | cons a b => rfl
              have hdone : doneL (pre ++ [x]) h ++ rest = doneL pre h ++ ⟨x.name, hc, qc⟩ :: rest := by rw [done_snoc, hnf, HREL.out]; simp
              have HDONE := Lib.hid hdone
              clear hdone hnf
              go_upto_region 18 with fail
              go_quiet (fail)
              have HFIN : Hid (t = (pre ++ [x]) ++ rest ∧ outS (pre ++ [x]) h = out ∧ WOk t (doneL (pre ++ [x]) h ++ rest) h wlc ∧ Sep w (wc.drewN nq) (rowRes 3 1 (.slice po out.length qo) out.length (intCells out) :: midRes b (doneL (pre ++ [x]) h ++ rest) wlc :: rowRes 9 1 (.slice (some ⟨g1, 0, none⟩) t.length q1) t.length (strCells (t.map (·.name))) :: blkRes W.heap.size (.cells #[.int .i64 h] 3 (0, 0)) :: l)) := by
                refine Lib.hid ⟨by rw [HTE.out]; simp, HO1.out, ?_, ?_⟩
                · rw [HDONE.out]; exact HPV.out.ok
                · rw [HDONE.out]
                  have h0 : Sep w (wc.drewN nq) (openL p r (.slice pv qc.length cv) hc qc b mT mW (namesOf (ta ++ (x, p) :: tb)) wlc ta tb (rowRes 3 1 (.slice po out.length qo) out.length (intCells out) :: rowRes 9 1 (.slice (some ⟨g1, 0, none⟩) t.length q1) t.length (strCells (t.map (·.name))) :: blkRes W.heap.size (.cells #[.int .i64 h] 3 (0, 0)) :: l)) := (HSV.out.only (Only.drewN [] wc nq)).reorder (by unfold openL; intro x; simp only [List.count_append, List.count_cons, List.count_nil, List.cons_append, List.nil_append, List.append_assoc]; omega)
                  have h1 := mid_close (x := x) h0
                  rw [HTA.out, HTB.out] at h1
                  exact h1.up1
              clear HSV HPV pb0 pb1 hlen
              go_wp2_with fail
              go_roundg (t.length - (pre.length + 1))
              case measure => omega
              case rel => exact ⟨pre ++ [x], rest, po, qo, wlc, by simp, by simp, by rw [HFIN.out.2.1], HFIN.out.1, HFIN.out.2.2.1, (by rw [HFIN.out.2.1]; exact HFIN.out.2.2.2)⟩

end Go.Proofs.YtipfjjcokajjjaaDoor
