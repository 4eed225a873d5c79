/-
  What is proved here: a key taken out of a tree (Delete of package tree).
  No condition: each lemma names its own.
-/
import Derived.Test.YtpaffpiaoanegaaTreeDr
import Derived.Deep.DeepCutAuto
set_option linter.unusedVariables false
set_option linter.unusedSimpArgs false
namespace Go.Proofs.Ytpaffpiaoanegaa
open Go.RowKit

theorem set_same {α : Type} [Inhabited α] {l : List α} {i : Nat} {x : α} (h : l[i]? = some x) : l.set i x = l := by
  obtain ⟨h1, h2⟩ := List.getElem?_eq_some_iff.1 h
  rw [← h2, List.set_getElem_self]

/-- A key that is not there: the tree is as it was. -/
theorem dropT_not {fan : Nat} (key : ByteArray) : ∀ (h : Nat) (t : T), Kd fan h t → Sorted (toL h t) → here (toL h t) key = false → dropT (least fan) h key t = (t, false) := by
  intro h
  induction h with
  | zero =>
    intro t hk hs hh
    rw [dropT, if_neg (by rw [show here t.keys key = false from hh]; decide)]
  | succ h ih =>
    intro t hk hs hh
    have hh0 : here t.keys key = false := by
      cases hx : here t.keys key with
      | false => rfl
      | true => rw [here_up hk hs hx] at hh; cases hh
    obtain ⟨ka, kb, ca, c, cb, ht, e1, e2, e3, e4, e5, e6, e7, e8, e9⟩ := hk.at_ hs key
    have hkl : t.keys = ka ++ kb := by rw [ht]; rfl
    have hcl : t.kids = ca ++ c :: cb := by rw [ht]; rfl
    have hc0 : t.kids[below t.keys key]! = c := by rw [← e1, hcl]; exact get_mid (by omega)
    have hs' := hs
    rw [e4] at hs'
    have hcs : Sorted (toL h c) := (List.pairwise_append.1 (List.pairwise_append.1 hs').2.1).1
    have hps : Sorted (post kb (cb.map (toL h))) := (List.pairwise_append.1 (List.pairwise_append.1 hs').2.1).2.1
    have hgt := post_gt hps e6 (fun q => by
      rw [hkl, here_keys (by rw [← hkl]; exact e1)] at hh0
      simp only [decide_eq_false_iff_not] at hh0
      exact hh0 q)
    have hhc : here (toL h c) key = false := by
      rw [e4, ← List.append_assoc, here_mid e5 hgt] at hh
      exact hh
    rw [dropT, hc0, if_neg (by rw [hh0]; decide), ih c e7 hcs hhc]
    unfold dropAt
    simp only
    rw [if_neg (by omega), set_same (by rw [hcl, ← e2, List.getElem?_append_right (Nat.le_refl _), Nat.sub_self]; rfl), T.eta]

theorem delL_length (L : List E) (key : ByteArray) : (delL L key).length = L.length - (if here L key then 1 else 0) := by
  unfold delL
  split
  · rename_i h
    have := here_get' h
    simp only [List.length_append, List.length_take, List.length_drop]; omega
  · simp

set_option maxRecDepth 100000 in
set_option maxHeartbeats 4000000 in
theorem tdel_any {w W : World} {l : List Res} {q fan : Nat} {L : List E} (hs : Sep w W (treeRes q fan L :: l)) (key : ByteArray) (hlen : L.length ≤ 100000) :
    Calls Try.prog 23 #[.pointer (some ⟨q, 0, none⟩), .string key] W fun r W' => r = .returned (.bool (here L key)) ∧ Sep w W' (treeRes q fan (delL L key) :: l) := by
  obtain ⟨⟨p, h, t⟩, hs1, hr, hL, h3, h64⟩ := hs.open
  simp only [treeParts, List.cons_append, List.nil_append] at hs1 hr hL
  have c0 := cell_of_block hs1.blk 0 (v := .int .i64 fan) rfl
  have c1 := cell_of_block hs1.blk 1 (v := .pointer (some ⟨p, 0, none⟩)) rfl
  have HC := Lib.hid (drop_any h3 h64 h key p t w W.drew _ (hs1.up1.drew) hr.kd hr.sorted hr.one hr.lt)
  obtain ⟨p1, p2, p3, p4, p5⟩ := dropT_ok h3 h key t hr.kd hr.sorted hr.one hr.lt
  have hroot := rootDrop_ok h3 hr key
  have hnot := dropT_not key h t hr.kd hr.sorted
  have hlt := hr.lt
  rw [hL] at p1 p2 hroot hnot
  have hdl := delL_length L key
  have hll : here L key = true → 1 ≤ L.length := fun hh => by have := here_get' hh; omega
  generalize hT1 : dropT (least fan) h key t = r at HC p1 p2 p3 p4 p5 hnot
  obtain ⟨t1, b⟩ := r
  simp only at HC p1 p2 p3 p4 p5
  have hw1 : IntKind.i64.wrap ((fan : Int) + 1) = (fan : Int) + 1 := IntWalk.i64_in _ (by omega)
  obtain ⟨c, hc⟩ : ∃ c : Nat, c = (fan + 1) / 2 := ⟨_, rfl⟩
  obtain ⟨lf, hlf⟩ : ∃ lf : Nat, lf = least fan := ⟨_, rfl⟩
  rw [← hlf] at HC
  have hcl : lf + 1 = c := by rw [hlf, hc]; unfold least; omega
  have hc32 : c ≤ 32 := by omega
  have hc1 : 2 ≤ c := by omega
  have hw2 : ((fan : Int) + 1).tdiv 2 = (c : Int) := by rw [Int.tdiv_eq_ediv_of_nonneg (by omega)]; omega
  have hw3 : IntKind.i64.wrap (c : Int) = (c : Int) := IntWalk.i64_in _ (by omega)
  have hw4 : IntKind.i64.wrap ((c : Int) - 1) = (lf : Int) := by rw [IntWalk.i64_in _ (by omega)]; omega
  clear hc hlf hcl
  have mixed : Try.prog.follows .mixedOrders = true := by kernel_rfl
  obtain ⟨m, hm⟩ : ∃ m, m = (delL L key).length := ⟨_, rfl⟩
  rw [← hm] at hdl
  -- what the end asks: the key was not there
  have FN : Hid (b = false → ∀ W4 : World, Sep w W4 (nodeRes h p t1 :: blkRes q (.cells #[.int .i64 fan, .pointer (some ⟨p, 0, none⟩), .int .i64 L.length] 86 (0, 0)) :: l) → Sep w W4 (treeRes q fan (delL L key) :: l)) := by
    intro hb W4 h4
    have hh : here L key = false := by rw [← p2, hb]
    have ht := hnot hh
    have ht1 : t1 = t := congrArg Prod.fst ht
    have hd : delL L key = L := by unfold delL; rw [if_neg (by rw [hh]; decide)]
    rw [hd]
    refine Sep.close (ps := treeParts q fan L.length) (p, h, t) ?_ ⟨hr, hL, h3, h64⟩
    simp only [treeParts, List.cons_append, List.nil_append]
    rw [ht1] at h4
    exact h4.up1
  have FY : Hid (∀ W4 : World, Sep w W4 (blkRes q (.cells #[.int .i64 fan, .pointer (some ⟨p, 0, none⟩), .int .i64 m] 86 (0, 0)) :: nodeRes h p t1 :: l) → (h = 0 ∨ t1.keys.length ≠ 0) → Sep w W4 (treeRes q fan (delL L key) :: l)) := by
    intro W4 h4 hc
    refine Sep.close (ps := treeParts q fan (delL L key).length) (p, h, t1) ?_ ⟨?_, ?_, h3, h64⟩
    · simp only [treeParts, List.cons_append, List.nil_append]
      rw [← hm]
      exact h4
    · cases h with
      | zero => rw [rootDrop, hT1] at hroot; exact hroot.2
      | succ h => rw [rootDrop, hT1, if_neg (hc.resolve_left (by omega))] at hroot; exact hroot.2
    · exact p1
  have FZ : Hid (∀ (W4 : World) (p' h' : Nat), Sep w W4 (blkRes q (.cells #[.int .i64 fan, .pointer (some ⟨p', 0, none⟩), .int .i64 m] 86 (0, 0)) :: nodeRes h' p' t1.kids[0]! :: l) → h = h' + 1 → t1.keys.length = 0 → Sep w W4 (treeRes q fan (delL L key) :: l)) := by
    intro W4 p' h' h4 he hc
    subst he
    rw [rootDrop, hT1, if_pos hc] at hroot
    refine Sep.close (ps := treeParts q fan (delL L key).length) (p', h', t1.kids[0]!) ?_ ⟨hroot.2, hroot.1, h3, h64⟩
    simp only [treeParts, List.cons_append, List.nil_append]
    rw [← hm]
    exact h4
  have HB := Lib.hid p2
  have HK3 := Lib.hid p3
  have HM := Lib.hid hdl
  have HLL := Lib.hid hll
  clear hs hs1 hr hL hT1 hroot hnot p1 p2 p3 hm hdl hll
  go_enter Try.func23, Try.ntmps23
  go_upto_region 1 with fail
  go_cut [22] (fun s22 wx => s22 = .bool (!b) ∧ Sep w wx (nodeRes h p t1 :: blkRes q (.cells #[.int .i64 fan, .pointer (some ⟨p, 0, none⟩), .int .i64 L.length] 86 (0, 0)) :: l))
  case first =>
    go_wp2_with fail
    go_region_held3 (fun w' => w'.cell? ⟨q, 0, none⟩ = some (.int .i64 fan) ∧ w'.cell? ⟨q, 1, none⟩ = some (.pointer (some ⟨p, 0, none⟩))) (first | go_keep | (refine ⟨?_, ?_⟩ <;> assumption)) (first | (go_at_call 36; refine (HC.out).mono ?_; rintro r w4 ⟨rfl, hs4⟩; have HS4 := Lib.hid hs4; have cc0 := cell_of_block HS4.out.up1.blk 0 (v := .int .i64 fan) rfl; have cc1 := cell_of_block HS4.out.up1.blk 1 (v := .pointer (some ⟨p, 0, none⟩)) rfl; clear hs4))
    all_goals
      go_wp2_with fail
      go_meet
      exact ⟨rfl, HS4.out⟩
  case rest =>
    obtain ⟨rfl, hs4⟩ := hcut
    obtain ⟨V, hV⟩ : ∃ V : World, V = wc := ⟨_, rfl⟩
    rw [← hV] at hs4 ⊢
    clear hV hw1 hw2 hw3 hw4 c0 c1 HC
    have HS4 := Lib.hid hs4; clear hs4
    cases b with
    | false =>
      have hHB := HB.out
      go_wp2_with fail
      go_ret
      refine ⟨by rw [← HB.out]; rfl, ?_⟩
      exact FN.out (by first | rfl | trivial) V HS4.out
    | true =>
      have hm1 : (m : Int) = (L.length : Int) - 1 := by
        have h1 := HM.out
        rw [← HB.out] at h1
        have h2 := HLL.out HB.out.symm
        simp at h1; omega
      have HM1 := Lib.hid hm1; clear hm1
      have hs5 := HS4.out.up1
      have z2 := cell_of_block hs5.blk 2 (v := .int .i64 L.length) rfl
      have f2 := free_of_block hs5.blk 2
      have HS5 := Lib.hid (show Sep w (V.setCell ⟨q, 2, none⟩ (.int .i64 ((L.length : Int) - 1))) (blkRes q (.cells #[.int .i64 fan, .pointer (some ⟨p, 0, none⟩), .int .i64 ((L.length : Int) - 1)] 86 (0, 0)) :: nodeRes h p t1 :: l) from hs5.store 2 (.int .i64 ((L.length : Int) - 1)))
      clear hs5
      obtain ⟨kp, kq, cp, cq, ps, hpl, hs6⟩ := HS5.out.up1.nodeOpen
      have y0 : World.cell? (V.setCell ⟨q, 2, none⟩ (.int .i64 ((L.length : Int) - 1))) ⟨p, 0, none⟩ = some (.slice kp t1.keys.length kq) := cell_of_block hs6.blk 0 (v := .slice kp t1.keys.length kq) rfl
      have y1 : World.cell? (V.setCell ⟨q, 2, none⟩ (.int .i64 ((L.length : Int) - 1))) ⟨p, 1, none⟩ = some (.slice cp ps.length cq) := cell_of_block hs6.blk 1 (v := .slice cp ps.length cq) rfl
      have x1 : World.cell? (V.setCell ⟨q, 2, none⟩ (.int .i64 ((L.length : Int) - 1))) ⟨q, 1, none⟩ = some (.pointer (some ⟨p, 0, none⟩)) := cell_of_block HS5.out.blk 1 (v := .pointer (some ⟨p, 0, none⟩)) rfl
      have fx1 := free_of_block HS5.out.blk 1
      by_cases hz : t1.keys.length = 0
      · cases h with
        | zero =>
          have hp0 : ps.length = 0 := by rw [hpl, show t1.kids = [] from HK3.out]; rfl
          rw [hp0] at y1
          rw [hz] at y0
          have HZ := Lib.hid hz
          clear hs6 hpl hp0 hz
          go_wp2_with fail
          go_ret
          refine ⟨by rw [← HB.out]; rfl, ?_⟩
          refine FY.out _ ?_ (.inl (by first | rfl | trivial))
          rw [HM1.out]
          exact HS5.out
        | succ h' =>
          have hp1 : ps.length = 1 := by rw [hpl, HK3.out.1, hz]
          obtain ⟨q', hq'⟩ : ∃ q', ps = [q'] := by
            match ps, hp1 with
            | [x], _ => exact ⟨x, rfl⟩
          subst hq'
          obtain ⟨c, hc⟩ : ∃ c, t1.kids = [c] := by
            have h1 := HK3.out.1
            rw [hz] at h1
            match hk : t1.kids, h1 with
            | [x], _ => exact ⟨x, rfl⟩
          rw [hc] at hs6
          have rP := hs6.up2.row
          obtain ⟨g, rfl, x2⟩ := kid_cell rP (i := 0) (q := q') rfl
          rw [hz] at y0
          have hs7 := hs6.reorder (l' := blkRes q (.cells #[.int .i64 fan, .pointer (some ⟨p, 0, none⟩), .int .i64 ((L.length : Int) - 1)] 86 (0, 0)) :: nodeRes h' q' c :: (blkRes p (.cells #[.slice kp t1.keys.length kq, .slice (some ⟨g, 0, none⟩) [q'].length cq] 91 (0, 0)) :: rowRes 31 2 (.slice kp t1.keys.length kq) t1.keys.length (cellsE t1.keys) :: rowRes 84 1 (.slice (some ⟨g, 0, none⟩) [q'].length cq) [q'].length ([q'].map ptrV) :: l)) (by
            rw [show List.zipWith (subRes (h' + 1)) [q'] [c] = [nodeRes h' q' c] from rfl]
            intro x; simp only [List.count_append, List.count_cons, List.count_nil, List.cons_append, List.nil_append, List.append_assoc]; omega)
          have hs8 := (((hs7.store 1 (.pointer (some ⟨q', 0, none⟩))).up2.tail.up2.tail.up2.tail))
          have HZ := Lib.hid hz
          have HC1 := Lib.hid hc
          have HS8 := Lib.hid hs8
          clear hs6 hpl hp1 hz hs7 hs8 hc rP
          go_wp2_with fail
          go_ret
          refine ⟨by rw [← HB.out]; rfl, ?_⟩
          refine FZ.out _ q' h' ?_ (by first | rfl | trivial) HZ.out
          rw [HM1.out, HC1.out]
          exact HS8.out
      · have hz' : ¬ ((t1.keys.length : Int) = 0) := by omega
        clear hs6 hpl
        go_wp2_with fail
        go_ret
        refine ⟨by rw [← HB.out]; rfl, ?_⟩
        refine FY.out _ ?_ (.inr hz)
        rw [HM1.out]
        exact HS5.out

end Go.Proofs.Ytpaffpiaoanegaa
