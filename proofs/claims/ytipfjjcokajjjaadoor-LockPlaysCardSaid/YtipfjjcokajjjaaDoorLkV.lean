/-
  What is proved here: (*lock.Table).Take, where it does something.
  No condition: each lemma names its own.
-/
import Derived.Test.YtipfjjcokajjjaaDoorLkU
set_option linter.unusedVariables false
set_option linter.unusedSimpArgs false
namespace Go.Proofs.YtipfjjcokajjjaaDoor
open Go.RowKit

set_option maxRecDepth 100000 in
set_option maxHeartbeats 8000000 in
/-- Take, where it does something. -/
theorem take_goes {w W : World} {l : List Res} {b : Nat} {t : Tab} (hg : Good t) (htog : Tog w) (h : Int) (n : ByteArray) (want : Int) (ha : ¬ (h < 1 ∨ 1000 < h ∨ 64 < n.size ∨ want < 1 ∨ 2 < want)) (hs : Sep w W (tabRes b t :: l))
    (hwt : waitsM t h = none) (hml : modeM t h n < want) (hfull : ¬ (getT t n = none ∧ t.length = 256)) :
    Calls Tryd.prog 13 #[.pointer (some ⟨b, 0, none⟩), .int .i64 h, .string n, .int .i64 want] W fun e W' => e = .returned (.int .i64 (takeM t h n want).1) ∧ Sep w W' (tabRes b (takeM t h n want).2 :: l) := by
  have hns : n.size ≤ 64 := by omega
  have hnw := waitsM_none hg.each hwt
  have htk := taken hg n hns
  obtain ⟨x, hx⟩ : ∃ x, x = (getT t n).getD ⟨n, [], []⟩ := ⟨_, rfl⟩
  rw [← hx] at htk
  obtain ⟨e1, e2, e3, e4, e5, e6, e7, e8⟩ := htk
  have hmx : modeM t h n = modeL x.has h := by
    unfold modeM
    rw [hx]
    cases getT t n <;> rfl
  have hv : takeM t h n want = (if gets x h want then 0 else 120, lo t n ++ takeT x h want :: hi t n) := by
    unfold takeM
    rw [if_neg ha, hwt, if_neg (by simp), if_neg (by omega), if_neg hfull, ← hx]
  have hlt : modeL x.has h < want := by omega
  have hnq : ∀ y ∈ x.q, y.1 ≠ h := fun y hy e => hnw (y.1, x.name) (e8.mem_iff.2 (List.mem_append_left _ (List.mem_map.2 ⟨y, hy, rfl⟩))) e
  obtain ⟨⟨⟨mT, mW⟩, tp⟩, hs0, ht⟩ := hs.open
  have hs1 := hs0
  simp only [tabParts, List.cons_append] at hs1
  have a1 : ¬ h < 1 := by omega
  have a2 : ¬ 1000 < h := by omega
  have a3 : ¬ (64 : Int) < (n.size : Int) := by omega
  have a4 : ¬ want < 1 := by omega
  have a5 : ¬ 2 < want := by omega
  have hwant : want = 1 ∨ want = 2 := by omega
  have c0 := cell_of_block hs1.blk 0 (v := .map (some mT)) rfl
  obtain ⟨qq, lk, hqq⟩ := thing_look hg ht n hs0
  have hb2 := hs1.alloc #[.pointer qq] 57
  have d1 := cell_of_block hb2.up1.blk 1 (v := .map (some mW)) rfl
  obtain ⟨oW2, bW2, hW2⟩ := hb2.up3.map
  have lkW := waits_look Tryd.underlying54 Tryd.underlying3 Tryd.zStr bW2 hW2 hg h
  rw [hwt] at lkW
  simp only [Option.getD_none, Option.isSome_none] at lkW
  have HB2 := Lib.hid hb2
  have HS1 := Lib.hid hs1
  have HT := Lib.hid ht
  have HG := Lib.hid hg
  have HX := Lib.hid hx
  have HQQ := Lib.hid hqq
  have HLT := Lib.hid hlt
  have HFULL := Lib.hid hfull
  have HE1 := Lib.hid e1
  have HE2 := Lib.hid e2
  have HE3 := Lib.hid e3
  have HE5 := Lib.hid e5
  have HE8 := Lib.hid e8
  have HNQ := Lib.hid hnq
  have HNW := Lib.hid hnw
  have HTOG := Lib.hid htog
  rw [hv]
  obtain ⟨code, hcode⟩ : ∃ code : Nat, code = (if gets x h want = true then 0 else 120) := ⟨_, rfl⟩
  simp only []
  rw [← hcode]
  have HCODE := Lib.hid hcode
  clear hcode
  clear hs hs0 hs1 hb2 bW2 hW2 ht hg hx hqq hlt hfull hwt hml hns hnw e1 e2 e3 e4 e5 e6 e7 e8 hmx hv hnq htog ha
  go_enter Tryd.func13, Tryd.ntmps13
  go_upto_block 0 with fail
  go_cut [] (fun wx => ∃ p ta tb r v, ta.map Prod.fst = lo t n ∧ tb.map Prod.fst = hi t n ∧ Sep w wx (blkRes W.heap.size (ptrObj p) :: openL p r v x.has x.q b mT mW (namesOf (ta ++ (x, p) :: tb)) (waitsL t) ta tb l))
  case first =>
    clear lk lkW c0 d1
    rcases HQQ.out with ⟨hn, rfl⟩ | ⟨x', ta, p, tb, hgx, htp, hta, htb, rfl⟩
    · have hq0 := cell_of_block HB2.out.blk 0 (v := .pointer none) rfl
      have hc0 := cell_of_block HB2.out.up1.blk 0 (v := .map (some mT)) rfl
      obtain ⟨oT2, bT2, hT2⟩ := HB2.out.up2.map
      have hln := mapG_len Tryd.underlying53 bT2 hT2
      have hnl : (namesOf tp).length = t.length := by rw [← HT.out]; simp [namesOf]
      rw [hnl] at hln
      have hne : ¬ ((t.length : Int) = 256) := by
        intro q
        exact HFULL.out ⟨hn, by omega⟩
      have hmm := @run_makeMap Tryd.prog
      go_upto_region 13 with fail
      clear hln hnl hc0 hq0 bT2 hT2
      obtain ⟨ta, tb, htp, hta, htb⟩ : ∃ ta tb, tp = ta ++ tb ∧ ta.map Prod.fst = lo t n ∧ tb.map Prod.fst = hi t n := by
        obtain ⟨ta, tb, h1, h2, h3⟩ := List.map_eq_append_iff.1 (HT.out.trans (getT_none HG.out hn).2)
        exact ⟨ta, tb, h1, h2, h3⟩
      have hxx : x = ⟨n, [], []⟩ := by rw [HX.out, hn]; rfl
      have s1 := HS1.out.alloc #[.pointer (some ⟨W.heap.size + 1 + 1, 0, none⟩)] 57
      have s2 := s1.mapNew mInt mInt 0
      have s3 := s2.alloc #[.map (some (W.heap.size + 1)), .slice none 0 0] 61
      have z1 : (W.alloc (.cells #[.pointer (some ⟨W.heap.size + 1 + 1, 0, none⟩)] 57)).heap.size = W.heap.size + 1 := by simp
      have z2 : ((W.alloc (.cells #[.pointer (some ⟨W.heap.size + 1 + 1, 0, none⟩)] 57)).alloc (.map #[] 0)).heap.size = W.heap.size + 1 + 1 := by simp
      rw [z1] at s3
      rw [z2] at s3
      have s4 := s3.win_nil 65 2
      clear s1 s2 s3 z1 z2
      obtain ⟨V3, hV3⟩ : ∃ V3, V3 = ((W.alloc (.cells #[.pointer (some ⟨W.heap.size + 1 + 1, 0, none⟩)] 57)).alloc (.map #[] 0)).alloc (.cells #[.map (some (W.heap.size + 1)), .slice none 0 0] 61) := ⟨_, rfl⟩
      rw [← hV3] at s4 ⊢
      have u1 := cell_of_block (s4.tail.tail.tail.up1.blk) 0 (v := .map (some mT)) rfl
      have u2 := cell_of_block (s4.tail.tail.tail.blk) 0 (v := .pointer (some ⟨W.heap.size + 1 + 1, 0, none⟩)) rfl
      obtain ⟨oT, bT, hT⟩ := s4.tail.tail.tail.up2.map
      obtain ⟨W5, o5, hrun5, hm5, ht5⟩ := mapG_upd (w := V3.drew) strKey Tryd.underlying53 Tryd.underlying9 bT hT n (W.heap.size + 1 + 1)
      have hrun6 : (Instr.mapUpdate 53 (.map (some mT)) (.string n) (.pointer (some ⟨W.heap.size + 1 + 1, 0, none⟩))).run Tryd.prog V3.drew = .ok () W5 := hrun5
      clear hrun5
      have hnm : ∀ y ∈ namesOf tp, y.1 ≠ n := names_miss HT.out (getT_none HG.out hn).1
      have hperm : (updL (namesOf tp) n (W.heap.size + 1 + 1)).Perm (namesOf (ta ++ (x, W.heap.size + 1 + 1) :: tb)) := by
        unfold updL
        rw [show (namesOf tp).filter (fun x => decide (x.1 ≠ n)) = namesOf tp from filter_no hnm, htp]
        unfold namesOf
        rw [List.map_append, List.map_append, List.map_cons, hxx]
        exact List.perm_append_comm.trans (List.perm_middle (a := (n, W.heap.size + 1 + 1)) (l₁ := ta.map (fun y : Th × Nat => (y.1.name, y.2))) (l₂ := tb.map (fun y : Th × Nat => (y.1.name, y.2)))).symm
      have HFIN : Hid (∃ p ta tb r v, ta.map Prod.fst = lo t n ∧ tb.map Prod.fst = hi t n ∧ Sep w W5 (blkRes W.heap.size (ptrObj p) :: openL p r v x.has x.q b mT mW (namesOf (ta ++ (x, p) :: tb)) (waitsL t) ta tb l)) := by
        refine Lib.hid ⟨W.heap.size + 1 + 1, ta, tb, W.heap.size + 1, .slice none 0 0, hta, htb, ?_⟩
        have hqs : queuesOf (ta ++ tb) = queuesOf ta ++ queuesOf tb := by simp [queuesOf]
        have t1 : Sep w V3 (winRes 65 2 (.slice none 0 0) 0 [] :: blkRes (W.heap.size + 1 + 1) (queObj (W.heap.size + 1) (.slice none 0 0)) :: mapRes mInt mInt [] (W.heap.size + 1) :: blkRes W.heap.size (ptrObj (W.heap.size + 1 + 1)) :: blkRes b (tabObj mT mW) :: mapRes mStr mPtr (namesOf tp) mT :: mapRes mInt mStr (waitsL t) mW :: (queuesOf tp ++ l)) := s4
        have t2 : Sep w V3.drew (mapRes mStr mPtr (namesOf tp) mT :: winRes 65 2 (.slice none 0 0) 0 [] :: blkRes (W.heap.size + 1 + 1) (queObj (W.heap.size + 1) (.slice none 0 0)) :: mapRes mInt mInt [] (W.heap.size + 1) :: blkRes W.heap.size (ptrObj (W.heap.size + 1 + 1)) :: blkRes b (tabObj mT mW) :: mapRes mInt mStr (waitsL t) mW :: (queuesOf tp ++ l))   := t1.drew.reorder (by intro x; simp only [List.count_append, List.count_cons, List.count_nil, List.cons_append, List.nil_append, List.append_assoc]; omega)
        have t3 := (t2.mapTurn ht5 hm5).mapPerm hperm
        rw [htp, hqs, hxx] at t3
        rw [hxx]
        exact t3.reorder (by unfold openL; intro x; simp only [List.count_append, List.count_cons, List.count_nil, List.cons_append, List.nil_append, List.append_assoc]; simp only [List.length_nil, wCells, List.flatMap_nil]; omega)
      clear s4 bT hT hm5 ht5 hperm hnm hxx hV3 HB2 HS1
      refine wp_region_last (S := (fun w' => w'.cell? ⟨b, 0, none⟩ = some (.map (some mT)) ∧ w'.cell? ⟨W.heap.size, 0, none⟩ = some (.pointer (some ⟨W.heap.size + 1 + 1, 0, none⟩)))) (by kernel_rfl) 6 _ rfl rfl rfl (by kernel_rfl) [5, 4, 3, 2, 1, 0] (by kernel_rfl) (by kernel_rfl) ?_ (fun hHeld => ?_)
      · (try dsimp only); (first | go_keep | (refine ⟨?_, ?_⟩ <;> assumption))
      simp only [lull, List.setIfInBounds_toArray, List.set_cons_succ, List.set_cons_zero]
      refine wpAnyH_take (i := 0) (v := ?_) rfl (by kernel_rfl) (by kernel_rfl) (by kernel_rfl) (fun _ _ _ h => h) (Or.inl ⟨by rfl, ?_⟩) (by assumption) ?_
      rotate_left
      · (intro w hSw; (try dsimp only at hSw); go_simp; try with_reducible rfl)
      (try simp only [Act.put, List.setIfInBounds_toArray, List.set_cons_zero, List.set_cons_succ])
      refine wpAnyH_take (i := 1) (v := ?_) rfl (by kernel_rfl) (by kernel_rfl) (by kernel_rfl) (fun _ _ _ h => h) (Or.inl ⟨by rfl, ?_⟩) (by assumption) ?_
      rotate_left
      · (intro w hSw; (try dsimp only at hSw); go_simp; try with_reducible rfl)
      (try simp only [Act.put, List.setIfInBounds_toArray, List.set_cons_zero, List.set_cons_succ])
      refine wpAnyH_take (i := 2) (v := ?_) rfl (by kernel_rfl) (by kernel_rfl) (by kernel_rfl) (fun _ _ _ h => h) (Or.inl ⟨by rfl, ?_⟩) (by assumption) ?_
      rotate_left
      · (intro w hSw; (try dsimp only at hSw); go_simp; try with_reducible rfl)
      (try simp only [Act.put, List.setIfInBounds_toArray, List.set_cons_zero, List.set_cons_succ])
      refine wpAnyH_take (i := 3) (v := ?_) rfl (by kernel_rfl) (by kernel_rfl) (by kernel_rfl) (fun _ _ _ h => h) (Or.inl ⟨by rfl, ?_⟩) (by assumption) ?_
      rotate_left
      · (intro w hSw; (try dsimp only at hSw); go_simp; try with_reducible rfl)
      (try simp only [Act.put, List.setIfInBounds_toArray, List.set_cons_zero, List.set_cons_succ])
      refine wpAnyH_take (i := 4) (v := ?_) rfl (by kernel_rfl) (by kernel_rfl) (by kernel_rfl) (fun _ _ _ h => h) (Or.inl ⟨by rfl, ?_⟩) (by assumption) ?_
      rotate_left
      · (intro w hSw; (try dsimp only at hSw); go_simp; try with_reducible rfl)
      (try simp only [Act.put, List.setIfInBounds_toArray, List.set_cons_zero, List.set_cons_succ])
      refine wpAnyH_take (i := 5) (v := ?_) rfl (by kernel_rfl) (by kernel_rfl) (by kernel_rfl) (fun _ _ _ h => h) (Or.inl ⟨by rfl, ?_⟩) (by assumption) ?_
      rotate_left
      · (intro w hSw; (try dsimp only at hSw); go_simp; try with_reducible rfl)
      (try simp only [Act.put, List.setIfInBounds_toArray, List.set_cons_zero, List.set_cons_succ])
      refine wpAnyH_take (i := 6) (v := ?_) rfl (by kernel_rfl) (by kernel_rfl) (by kernel_rfl) (fun _ _ _ h => h) (Or.inl ⟨by rfl, ?_⟩) (by assumption) ?_
      rotate_left
      · (intro w hSw; (try dsimp only at hSw); go_simp; try with_reducible rfl)
      (try simp only [Act.put, List.setIfInBounds_toArray, List.set_cons_zero, List.set_cons_succ])
      refine wpAnyH_done (by kernel_rfl) ?_ _
      refine tail_run rfl rfl ?_
      clear hHeld
      go_simp
      go_wp2_with fail
      go_meet
      exact HFIN.out
    · have htp : tp = ta ++ (x', p) :: tb := htp
      obtain rfl : x = x' := by rw [HX.out, hgx]; rfl
      have s1 : Sep w (W.alloc (.cells #[.pointer (some ⟨p, 0, none⟩)] 57)) (tabParts b t ((mT, mW), ta ++ (x, p) :: tb) ++ (blkRes W.heap.size (ptrObj p) :: l)) := by
        have h0 := HB2.out
        rw [htp] at h0
        refine h0.reorder ?_
        unfold tabParts
        intro x
        simp only [List.count_append, List.count_cons, List.count_nil, List.cons_append, List.nil_append, List.append_assoc, ptrObj]
        omega
      obtain ⟨r, v, s2⟩ := open_open s1
      have s3 : Sep w (W.alloc (.cells #[.pointer (some ⟨p, 0, none⟩)] 57)) (blkRes W.heap.size (ptrObj p) :: openL p r v x.has x.q b mT mW (namesOf (ta ++ (x, p) :: tb)) (waitsL t) ta tb l) := s2.reorder (by unfold openL; intro x; simp only [List.count_append, List.count_cons, List.count_nil, List.cons_append, List.nil_append, List.append_assoc]; omega)
      have HFIN : Hid (∃ p' ta tb r v, ta.map Prod.fst = lo t n ∧ tb.map Prod.fst = hi t n ∧ Sep w (W.alloc (.cells #[.pointer (some ⟨p, 0, none⟩)] 57)) (blkRes W.heap.size (ptrObj p') :: openL p' r v x.has x.q b mT mW (namesOf (ta ++ (x, p') :: tb)) (waitsL t) ta tb l)) := Lib.hid ⟨p, ta, tb, r, v, hta, htb, s3⟩
      have hq0 := cell_of_block s3.blk 0 (v := .pointer (some ⟨p, 0, none⟩)) rfl
      have hp0 := cell_of_block s3.tail.blk 0 (v := .map (some r)) rfl
      obtain ⟨oH, bH, hH⟩ := s3.tail.up1.map
      have lh := modes_look Tryd.underlying58 Tryd.underlying3 Tryd.zInt bH hH HE2.out h
      have hnle : ¬ (want ≤ modeL x.has h) := by have := HLT.out; omega
      clear s1 s2 s3 bH hH HB2 HS1 htp
      go_wp2_with fail
      go_meet
      exact HFIN.out
  case rest =>
    obtain ⟨p, ta, tb, r, v, hta, htb, hsm⟩ := hcut
    have hwc : Only [] w wc := hsm.old
    obtain ⟨pa, ca, rfl⟩ : ∃ pa ca, v = .slice pa x.q.length ca := by
      rcases (hsm.tail.up2).win with ⟨g1, g2, _⟩ | ⟨g, o, cap, cur, P0, S0, g1, _⟩
      · exact ⟨none, 0, by rw [g1, g2]⟩
      · exact ⟨_, _, g1⟩
    clear HB2 HS1 lk lkW c0 d1
    have s1 : Sep w wc (queueRes p x.has x.q :: blkRes W.heap.size (ptrObj p) :: blkRes b (tabObj mT mW) :: mapRes mStr mPtr (namesOf (ta ++ (x, p) :: tb)) mT :: mapRes mInt mStr (waitsL t) mW :: (queuesOf ta ++ (queuesOf tb ++ l))) := by
      refine Sep.close (ps := queueParts p x.has x.q) (Q := fun _ => True) (r, .slice pa x.q.length ca) (hsm.reorder ?_) trivial
      unfold openL queueParts queObj
      intro x
      simp only [List.count_append, List.count_cons, List.count_nil, List.cons_append, List.nil_append, List.append_assoc]
      omega
    have hfree := free_any HE2.out h want hwant (HTOG.out.only hwc) s1
    have q0 := cell_of_block hsm.blk 0 (v := .pointer (some ⟨p, 0, none⟩)) rfl
    have p0 := cell_of_block hsm.tail.blk 0 (v := .map (some r)) rfl
    obtain ⟨oH, bH, hH⟩ := hsm.tail.up1.map
    have lh := modes_look Tryd.underlying58 Tryd.underlying3 Tryd.zInt bH hH HE2.out h
    have HFREE := Lib.hid hfree
    have HSM := Lib.hid hsm
    obtain ⟨md, hmd⟩ : ∃ md, md = modeL x.has h := ⟨_, rfl⟩
    rw [← hmd] at lh
    have HMD := Lib.hid hmd
    clear hfree hsm s1 bH hH hmd hwc
    have hmd2 : md = 0 ∨ md = 1 := by
      have h1 := HMD.out
      have h2 := HLT.out
      rcases modeL_cases HE2.out h with ⟨h3, _⟩ | ⟨h3, _⟩ <;> omega
    have hnx : (⟨n, x.has, x.q⟩ : Th) = x := by have := HE1.out; cases x; simp only at this; subst this; rfl
    have HNX := Lib.hid hnx
    have hqlen : x.q.length ≤ 100000 := modes_len HE3.out
    obtain ⟨NQ, hNQ⟩ : ∃ NQ, NQ = x.q.length := ⟨_, rfl⟩
    obtain ⟨oW, bW, hW⟩ := HSM.out.mapOf (mk := mInt) (mv := mStr) (ks := waitsL t) (r := mW) (by simp [openL])
    have HQL := Lib.hid hqlen
    clear hnx hqlen bW hW hNQ NQ oW
    have hqb := HSM.out.blk
    have hpb := HSM.out.tail.blk
    have HQB := Lib.hid hqb
    have HPB := Lib.hid hpb
    have HTA := Lib.hid hta
    have HTB := Lib.hid htb
    obtain ⟨fr, hfr⟩ : ∃ fr, fr = freeL x.has h want := ⟨_, rfl⟩
    rw [← hfr] at HFREE
    have HFR := Lib.hid hfr
    obtain ⟨NQ, hnq⟩ : ∃ NQ, NQ = x.q.length := ⟨_, rfl⟩
    have HNQL := Lib.hid hnq
    clear hta htb hqb hpb hfr hnq
    have p1 := cell_of_block HPB.out 1 (v := .slice pa x.q.length ca) rfl
    go_upto_region 15 with fail
    clear lh p0 p1
    go_cut [111] (fun s111 wx => s111 = .bool (gets x h want) ∧ Sep w wx (blkRes W.heap.size (ptrObj p) :: openL p r (.slice pa x.q.length ca) x.has x.q b mT mW (namesOf (ta ++ (x, p) :: tb)) (waitsL t) ta tb l))
    case first =>
      have hget : gets x h want = (fr && (decide (0 < md) || x.q.isEmpty)) := by unfold gets; rw [HFR.out, HMD.out]
      have HGET := Lib.hid hget; clear hget
      cases fr with
      | false =>
        go_wp2_with (go_at_call 28; refine HFREE.out.mono ?_; rintro e w2 ⟨rfl, ho2⟩)
        go_meet
        exact ⟨by rw [HGET.out]; rfl, HSM.out.only ho2⟩
      | true =>
        rcases hmd2 with rfl | rfl
        · by_cases hq0 : x.q.length = 0
          · have hq0' : x.q = [] := List.eq_nil_of_length_eq_zero hq0
            have HQ0 := Lib.hid hq0'; clear hq0'
            go_wp2_with (go_at_call 28; refine HFREE.out.mono ?_; rintro e w2 ⟨rfl, ho2⟩; have q2 := cell_of_block (ho2.keeps HQB.out (by simp)) 0 (v := .pointer (some ⟨p, 0, none⟩)) rfl; have p2 := cell_of_block (ho2.keeps HPB.out (by simp)) 1 (v := .slice pa x.q.length ca) rfl)
            go_meet
            exact ⟨by rw [HGET.out, HQ0.out]; simp, HSM.out.only ho2⟩
          · have hq0' : x.q.isEmpty = false := by cases hqq : x.q with | nil => rw [hqq] at hq0; exact absurd rfl hq0 | cons a b => rfl
            have HQ0 := Lib.hid hq0'; clear hq0'
            have hqz : ¬ ((x.q.length : Int) = 0) := by omega
            go_wp2_with (go_at_call 28; refine HFREE.out.mono ?_; rintro e w2 ⟨rfl, ho2⟩; have q2 := cell_of_block (ho2.keeps HQB.out (by simp)) 0 (v := .pointer (some ⟨p, 0, none⟩)) rfl; have p2 := cell_of_block (ho2.keeps HPB.out (by simp)) 1 (v := .slice pa x.q.length ca) rfl)
            go_meet
            exact ⟨by rw [HGET.out, HQ0.out]; simp; exact fun e => hqz (by rw [e]; rfl), HSM.out.only ho2⟩
        · go_wp2_with (go_at_call 28; refine HFREE.out.mono ?_; rintro e w2 ⟨rfl, ho2⟩)
          go_meet
          exact ⟨by rw [HGET.out]; simp, HSM.out.only ho2⟩
    case rest =>
      obtain ⟨rfl, hsx⟩ := hcut
      clear HFREE HSM HQB HPB q0
      have HSX := Lib.hid hsx
      cases hgt : gets x h want with
      | true =>
        have q0 := cell_of_block hsx.blk 0 (v := .pointer (some ⟨p, 0, none⟩)) rfl
        have p0 := cell_of_block hsx.tail.blk 0 (v := .map (some r)) rfl
        obtain ⟨oH, bH, hH⟩ := hsx.tail.up1.map
        obtain ⟨W5, o5, hrun5, hm5, ht5⟩ := mapG_upd (w := _) intKey Tryd.underlying58 Tryd.underlying3 bH hH h want
        have hrun6 : (Instr.mapUpdate 58 (.map (some r)) (.int .i64 h) (.int .i64 want)).run Tryd.prog _ = .ok () W5 := hrun5
        have HEND := Lib.hid (take_gets HG.out HE1.out HTA.out HTB.out HE8.out hgt hsx ht5 hm5)
        have HGT := Lib.hid hgt
        clear hsx bH hH hm5 ht5 hrun5 hgt
        go_wp2_with fail
        go_ret
        exact ⟨by rw [HCODE.out, HGT.out]; rfl, HEND.out⟩
      | false =>
        have HGT := Lib.hid hgt
        clear hsx hgt
        rcases hmd2 with rfl | rfl
        · have q0 := cell_of_block HSX.out.blk 0 (v := .pointer (some ⟨p, 0, none⟩)) rfl
          have p0 := cell_of_block HSX.out.tail.blk 1 (v := .slice pa x.q.length ca) rfl
          have hat : atQ x h = x.q.length := by unfold atQ; rw [if_neg (by rw [← HMD.out]; omega)]
          go_upto_region 23 with fail
          rw [← hat]
          clear q0 p0 hat
          have hq1 : Sep w _ (winRes 65 2 (.slice pa x.q.length ca) x.q.length (wCells x.q) :: blkRes p (queObj r (.slice pa x.q.length ca)) :: blkRes W.heap.size (ptrObj p) :: blkRes b (tabObj mT mW) :: mapRes mInt mInt x.has r :: mapRes mStr mPtr (namesOf (ta ++ (x, p) :: tb)) mT :: mapRes mInt mStr (waitsL t) mW :: (queuesOf ta ++ (queuesOf tb ++ l))) := HSX.out.reorder (by unfold openL; intro x; simp only [List.count_append, List.count_cons, List.count_nil, List.cons_append, List.nil_append, List.append_assoc]; omega)
          have hins := ins_drew (atQ x h) (h, want) (atQ_le x h) HQL.out hq1
          have HINS := Lib.hid hins
          have q0 := cell_of_block hq1.up2.blk 0 (v := .pointer (some ⟨p, 0, none⟩)) rfl
          have p0 := cell_of_block hq1.up1.blk 1 (v := .slice pa x.q.length ca) rfl
          clear hins hq1
          refine wp_region_last (S := (fun w' => w'.cell? ⟨W.heap.size, 0, none⟩ = some (.pointer (some ⟨p, 0, none⟩)) ∧ w'.cell? ⟨p, 1, none⟩ = some (.slice pa x.q.length ca))) (by kernel_rfl) 13 _ rfl rfl rfl (by kernel_rfl) [12, 11, 10, 9, 8, 7, 6, 5, 4, 3, 2, 1, 0] (by kernel_rfl) (by kernel_rfl) ?_ (fun hHeld => ?_)
          · (try dsimp only); (first | go_keep | (refine ⟨?_, ?_⟩ <;> assumption))
          simp only [lull, List.setIfInBounds_toArray, List.set_cons_succ, List.set_cons_zero]
          refine wpAnyH_take (i := 0) (v := ?_) rfl (by kernel_rfl) (by kernel_rfl) (by kernel_rfl) (fun _ _ _ h => h) (Or.inl ⟨by rfl, ?_⟩) (by assumption) ?_
          rotate_left
          · (intro w hSw; (try dsimp only at hSw); go_simp; try with_reducible rfl)
          (try simp only [Act.put, List.setIfInBounds_toArray, List.set_cons_zero, List.set_cons_succ])
          refine wpAnyH_take (i := 1) (v := ?_) rfl (by kernel_rfl) (by kernel_rfl) (by kernel_rfl) (fun _ _ _ h => h) (Or.inl ⟨by rfl, ?_⟩) (by assumption) ?_
          rotate_left
          · (intro w hSw; (try dsimp only at hSw); go_simp; try with_reducible rfl)
          (try simp only [Act.put, List.setIfInBounds_toArray, List.set_cons_zero, List.set_cons_succ])
          refine wpAnyH_take (i := 2) (v := ?_) rfl (by kernel_rfl) (by kernel_rfl) (by kernel_rfl) (fun _ _ _ h => h) (Or.inl ⟨by rfl, ?_⟩) (by assumption) ?_
          rotate_left
          · (intro w hSw; (try dsimp only at hSw); go_simp; try with_reducible rfl)
          (try simp only [Act.put, List.setIfInBounds_toArray, List.set_cons_zero, List.set_cons_succ])
          refine wpAnyH_take (i := 3) (v := ?_) rfl (by kernel_rfl) (by kernel_rfl) (by kernel_rfl) (fun _ _ _ h => h) (Or.inl ⟨by rfl, ?_⟩) (by assumption) ?_
          rotate_left
          · (intro w hSw; (try dsimp only at hSw); go_simp; try with_reducible rfl)
          (try simp only [Act.put, List.setIfInBounds_toArray, List.set_cons_zero, List.set_cons_succ])
          refine wpAnyH_take (i := 4) (v := ?_) rfl (by kernel_rfl) (by kernel_rfl) (by kernel_rfl) (fun _ _ _ h => h) (Or.inl ⟨by rfl, ?_⟩) (by assumption) ?_
          rotate_left
          · (intro w hSw; (try dsimp only at hSw); go_simp; try with_reducible rfl)
          (try simp only [Act.put, List.setIfInBounds_toArray, List.set_cons_zero, List.set_cons_succ])
          refine wpAnyH_take (i := 5) (v := ?_) rfl (by kernel_rfl) (by kernel_rfl) (by kernel_rfl) (fun _ _ _ h => h) (Or.inl ⟨by rfl, ?_⟩) (by assumption) ?_
          rotate_left
          · (intro w hSw; (try dsimp only at hSw); go_simp; try with_reducible rfl)
          (try simp only [Act.put, List.setIfInBounds_toArray, List.set_cons_zero, List.set_cons_succ])
          refine wpAnyH_take (i := 6) (v := ?_) rfl (by kernel_rfl) (by kernel_rfl) (by kernel_rfl) (fun _ _ _ h => h) (Or.inl ⟨by rfl, ?_⟩) (by assumption) ?_
          rotate_left
          · (intro w hSw; (try dsimp only at hSw); go_simp; try with_reducible rfl)
          (try simp only [Act.put, List.setIfInBounds_toArray, List.set_cons_zero, List.set_cons_succ])
          refine wpAnyH_take (i := 7) (v := ?_) rfl (by kernel_rfl) (by kernel_rfl) (by kernel_rfl) (fun _ _ _ h => h) (Or.inl ⟨by rfl, ?_⟩) (by assumption) ?_
          rotate_left
          · (intro w hSw; (try dsimp only at hSw); go_simp; try with_reducible rfl)
          (try simp only [Act.put, List.setIfInBounds_toArray, List.set_cons_zero, List.set_cons_succ])
          refine wpAnyH_take (i := 8) (v := ?_) rfl (by kernel_rfl) (by kernel_rfl) (by kernel_rfl) (fun _ _ _ h => h) (Or.inl ⟨by rfl, ?_⟩) (by assumption) ?_
          rotate_left
          · (intro w hSw; (try dsimp only at hSw); go_simp; try with_reducible rfl)
          (try simp only [Act.put, List.setIfInBounds_toArray, List.set_cons_zero, List.set_cons_succ])
          refine wpAnyH_ready (rs := [9]) (by kernel_rfl) (by simp) ?_
          refine AllReadyH.cons rfl (fun K hK => ?_) ?_
          · go_simp
            refine hK.out _ _ ?_ (fun hH1 => ?_)
            · (try dsimp only); (first | go_keep | (refine ⟨?_, ?_⟩ <;> assumption))
            clear hK K hHeld
            (try simp only [Act.put, List.setIfInBounds_toArray, List.set_cons_zero, List.set_cons_succ])
            refine wpAnyH_ready (rs := [10]) (by kernel_rfl) (by simp) ?_
            refine AllReadyH.cons rfl (fun K hK => ?_) ?_
            · (go_simp; go_wp2_with (go_at_call 31; refine HINS.out.mono ?_; rintro e w3 ⟨p3, c3, rfl, hs3⟩); have k0 := cell_of_block hs3.up2.blk 0 (v := .pointer (some ⟨p, 0, none⟩)) rfl; have k1 := cell_of_block hs3.up1.blk 1 (v := .slice pa x.q.length ca) rfl; have kf := free_of_block hs3.up1.blk 1; have HS3 := Lib.hid hs3; clear hs3)
              refine hK.out _ _ ?_ (fun hH2 => ?_)
              · (try dsimp only); (first | go_keep | (refine ⟨?_, ?_⟩ <;> assumption))
              clear hK K hH1
              (try simp only [Act.put, List.setIfInBounds_toArray, List.set_cons_zero, List.set_cons_succ])
              refine wpAnyH_take (i := 11) (v := ?_) rfl (by kernel_rfl) (by kernel_rfl) (by kernel_rfl) (fun _ _ _ h => h) (Or.inl ⟨by rfl, ?_⟩) (by assumption) ?_
              rotate_left
              · (intro w hSw; (try dsimp only at hSw); go_simp; try with_reducible rfl)
              (try simp only [Act.put, List.setIfInBounds_toArray, List.set_cons_zero, List.set_cons_succ])
              refine wpAnyH_take (i := 12) (v := ?_) rfl (by kernel_rfl) (by kernel_rfl) (by kernel_rfl) (fun _ _ _ h => h) (Or.inl ⟨by rfl, ?_⟩) (by assumption) ?_
              rotate_left
              · (intro w hSw; (try dsimp only at hSw); go_simp; try with_reducible rfl)
              (try simp only [Act.put, List.setIfInBounds_toArray, List.set_cons_zero, List.set_cons_succ])
              refine wpAnyH_take (i := 13) (v := ?_) rfl (by kernel_rfl) (by kernel_rfl) (by kernel_rfl) (fun _ _ _ h => h) (Or.inl ⟨by rfl, ?_⟩) (by assumption) ?_
              rotate_left
              · (intro w hSw; (try dsimp only at hSw); go_simp; try with_reducible rfl)
              (try simp only [Act.put, List.setIfInBounds_toArray, List.set_cons_zero, List.set_cons_succ])
              refine wpAnyH_done (by kernel_rfl) ?_ _
              refine tail_run rfl rfl ?_
              clear hH2
              have hs4 := (HS3.out.up1).store 1 (.slice p3 (insL x.q (atQ x h) (h, want)).length c3)
              simp only [List.setIfInBounds_toArray, List.set_cons_succ, List.set_cons_zero] at hs4
              have kk1 := cell_of_block hs4.up3.blk 1 (v := .map (some mW)) rfl
              obtain ⟨oW, bW, hW⟩ := (hs4.tail.tail.tail.tail.up2).map
              obtain ⟨W5, o5, hrun5, hm5, ht5⟩ := mapG_upd (w := _) intKey Tryd.underlying54 Tryd.underlying3 bW hW h n
              have hrun6 : (Instr.mapUpdate 54 (.map (some mW)) (.int .i64 h) (.string n)).run Tryd.prog _ = .ok () W5 := hrun5
              clear hrun5
              have HEND := Lib.hid (take_ends HG.out HE1.out HTA.out HTB.out HE8.out HNW.out HGT.out hs4 ht5 hm5)
              clear hs4 bW hW ht5 hm5 k0
              go_simp
              go_wp2_with fail
              go_ret
              exact ⟨by rw [HCODE.out, HGT.out]; rfl, HEND.out⟩
            exact AllReadyH.nil
          exact AllReadyH.nil
        · have hq0 := HSX.out.blk
          have hp0 := HSX.out.tail.blk
          obtain ⟨oH, bH, hH⟩ := HSX.out.tail.up1.map
          have htl := take1_any hq0 rfl hp0 rfl bH hH HE2.out
          have hq1 : Sep w _ (winRes 65 2 (.slice pa x.q.length ca) x.q.length (wCells x.q) :: blkRes p (queObj r (.slice pa x.q.length ca)) :: blkRes W.heap.size (ptrObj p) :: blkRes b (tabObj mT mW) :: mapRes mInt mInt x.has r :: mapRes mStr mPtr (namesOf (ta ++ (x, p) :: tb)) mT :: mapRes mInt mStr (waitsL t) mW :: (queuesOf ta ++ (queuesOf tb ++ l))) := HSX.out.reorder (by unfold openL; intro x; simp only [List.count_append, List.count_cons, List.count_nil, List.cons_append, List.nil_append, List.append_assoc]; omega)
          have hix := index_any 30 #[.pointer (some ⟨W.heap.size, 0, none⟩)] (fun y => decide (modeL x.has y.1 ≠ 1)) (enters_of Tryd.func30 (by kernel_rfl) rfl) htl HQL.out hq1
          have HIX := Lib.hid hix
          have q0 := cell_of_block hq0 0 (v := .pointer (some ⟨p, 0, none⟩)) rfl
          have p0 := cell_of_block hp0 1 (v := .slice pa x.q.length ca) rfl
          have HQB := Lib.hid hq0
          have HPB := Lib.hid hp0
          have hat : atQ x h = upAt x := by unfold atQ; rw [if_pos (by rw [← HMD.out]; omega)]
          have hup := idx_up HE2.out HE5.out
          have hale := atQ_le x h
          rw [hat] at hale
          clear hq0 hp0 bH hH htl hq1 hix
          have hidx : idxI x.q (fun y => decide (modeL x.has y.1 ≠ 1)) = if upAt x < x.q.length then (upAt x : Int) else -1 := by unfold idxI; rw [hup]
          rw [hidx] at HIX
          by_cases hlt2 : upAt x < x.q.length
          · rw [if_pos hlt2] at HIX
            obtain ⟨U, hU⟩ : ∃ U, U = upAt x := ⟨_, rfl⟩
            have HU := Lib.hid hU
            rw [← hU] at HIX hlt2
            have hu0 : ¬ ((U : Int) < 0) := by omega
            have HAT := Lib.hid (hat.trans hU.symm)
            clear hat hup hale hidx hU
            go_upto_region 23 with (go_at_call 29; refine HIX.out.mono ?_; rintro e w2 ⟨rfl, ho2⟩)
            have HSX2 := Lib.hid (HSX.out.only ho2)
            rw [← HAT.out]
            clear q0 p0 ho2
            have hq1 : Sep w _ (winRes 65 2 (.slice pa x.q.length ca) x.q.length (wCells x.q) :: blkRes p (queObj r (.slice pa x.q.length ca)) :: blkRes W.heap.size (ptrObj p) :: blkRes b (tabObj mT mW) :: mapRes mInt mInt x.has r :: mapRes mStr mPtr (namesOf (ta ++ (x, p) :: tb)) mT :: mapRes mInt mStr (waitsL t) mW :: (queuesOf ta ++ (queuesOf tb ++ l))) := HSX2.out.reorder (by unfold openL; intro x; simp only [List.count_append, List.count_cons, List.count_nil, List.cons_append, List.nil_append, List.append_assoc]; omega)
            have hins := ins_drew (atQ x h) (h, want) (atQ_le x h) HQL.out hq1
            have HINS := Lib.hid hins
            have q0 := cell_of_block hq1.up2.blk 0 (v := .pointer (some ⟨p, 0, none⟩)) rfl
            have p0 := cell_of_block hq1.up1.blk 1 (v := .slice pa x.q.length ca) rfl
            clear hins hq1
            refine wp_region_last (S := (fun w' => w'.cell? ⟨W.heap.size, 0, none⟩ = some (.pointer (some ⟨p, 0, none⟩)) ∧ w'.cell? ⟨p, 1, none⟩ = some (.slice pa x.q.length ca))) (by kernel_rfl) 13 _ rfl rfl rfl (by kernel_rfl) [12, 11, 10, 9, 8, 7, 6, 5, 4, 3, 2, 1, 0] (by kernel_rfl) (by kernel_rfl) ?_ (fun hHeld => ?_)
            · (try dsimp only); (first | go_keep | (refine ⟨?_, ?_⟩ <;> assumption))
            simp only [lull, List.setIfInBounds_toArray, List.set_cons_succ, List.set_cons_zero]
            refine wpAnyH_take (i := 0) (v := ?_) rfl (by kernel_rfl) (by kernel_rfl) (by kernel_rfl) (fun _ _ _ h => h) (Or.inl ⟨by rfl, ?_⟩) (by assumption) ?_
            rotate_left
            · (intro w hSw; (try dsimp only at hSw); go_simp; try with_reducible rfl)
            (try simp only [Act.put, List.setIfInBounds_toArray, List.set_cons_zero, List.set_cons_succ])
            refine wpAnyH_take (i := 1) (v := ?_) rfl (by kernel_rfl) (by kernel_rfl) (by kernel_rfl) (fun _ _ _ h => h) (Or.inl ⟨by rfl, ?_⟩) (by assumption) ?_
            rotate_left
            · (intro w hSw; (try dsimp only at hSw); go_simp; try with_reducible rfl)
            (try simp only [Act.put, List.setIfInBounds_toArray, List.set_cons_zero, List.set_cons_succ])
            refine wpAnyH_take (i := 2) (v := ?_) rfl (by kernel_rfl) (by kernel_rfl) (by kernel_rfl) (fun _ _ _ h => h) (Or.inl ⟨by rfl, ?_⟩) (by assumption) ?_
            rotate_left
            · (intro w hSw; (try dsimp only at hSw); go_simp; try with_reducible rfl)
            (try simp only [Act.put, List.setIfInBounds_toArray, List.set_cons_zero, List.set_cons_succ])
            refine wpAnyH_take (i := 3) (v := ?_) rfl (by kernel_rfl) (by kernel_rfl) (by kernel_rfl) (fun _ _ _ h => h) (Or.inl ⟨by rfl, ?_⟩) (by assumption) ?_
            rotate_left
            · (intro w hSw; (try dsimp only at hSw); go_simp; try with_reducible rfl)
            (try simp only [Act.put, List.setIfInBounds_toArray, List.set_cons_zero, List.set_cons_succ])
            refine wpAnyH_take (i := 4) (v := ?_) rfl (by kernel_rfl) (by kernel_rfl) (by kernel_rfl) (fun _ _ _ h => h) (Or.inl ⟨by rfl, ?_⟩) (by assumption) ?_
            rotate_left
            · (intro w hSw; (try dsimp only at hSw); go_simp; try with_reducible rfl)
            (try simp only [Act.put, List.setIfInBounds_toArray, List.set_cons_zero, List.set_cons_succ])
            refine wpAnyH_take (i := 5) (v := ?_) rfl (by kernel_rfl) (by kernel_rfl) (by kernel_rfl) (fun _ _ _ h => h) (Or.inl ⟨by rfl, ?_⟩) (by assumption) ?_
            rotate_left
            · (intro w hSw; (try dsimp only at hSw); go_simp; try with_reducible rfl)
            (try simp only [Act.put, List.setIfInBounds_toArray, List.set_cons_zero, List.set_cons_succ])
            refine wpAnyH_take (i := 6) (v := ?_) rfl (by kernel_rfl) (by kernel_rfl) (by kernel_rfl) (fun _ _ _ h => h) (Or.inl ⟨by rfl, ?_⟩) (by assumption) ?_
            rotate_left
            · (intro w hSw; (try dsimp only at hSw); go_simp; try with_reducible rfl)
            (try simp only [Act.put, List.setIfInBounds_toArray, List.set_cons_zero, List.set_cons_succ])
            refine wpAnyH_take (i := 7) (v := ?_) rfl (by kernel_rfl) (by kernel_rfl) (by kernel_rfl) (fun _ _ _ h => h) (Or.inl ⟨by rfl, ?_⟩) (by assumption) ?_
            rotate_left
            · (intro w hSw; (try dsimp only at hSw); go_simp; try with_reducible rfl)
            (try simp only [Act.put, List.setIfInBounds_toArray, List.set_cons_zero, List.set_cons_succ])
            refine wpAnyH_take (i := 8) (v := ?_) rfl (by kernel_rfl) (by kernel_rfl) (by kernel_rfl) (fun _ _ _ h => h) (Or.inl ⟨by rfl, ?_⟩) (by assumption) ?_
            rotate_left
            · (intro w hSw; (try dsimp only at hSw); go_simp; try with_reducible rfl)
            (try simp only [Act.put, List.setIfInBounds_toArray, List.set_cons_zero, List.set_cons_succ])
            refine wpAnyH_ready (rs := [9]) (by kernel_rfl) (by simp) ?_
            refine AllReadyH.cons rfl (fun K hK => ?_) ?_
            · go_simp
              refine hK.out _ _ ?_ (fun hH1 => ?_)
              · (try dsimp only); (first | go_keep | (refine ⟨?_, ?_⟩ <;> assumption))
              clear hK K hHeld
              (try simp only [Act.put, List.setIfInBounds_toArray, List.set_cons_zero, List.set_cons_succ])
              refine wpAnyH_ready (rs := [10]) (by kernel_rfl) (by simp) ?_
              refine AllReadyH.cons rfl (fun K hK => ?_) ?_
              · (go_simp; go_wp2_with (go_at_call 31; refine HINS.out.mono ?_; rintro e w3 ⟨p3, c3, rfl, hs3⟩); have k0 := cell_of_block hs3.up2.blk 0 (v := .pointer (some ⟨p, 0, none⟩)) rfl; have k1 := cell_of_block hs3.up1.blk 1 (v := .slice pa x.q.length ca) rfl; have kf := free_of_block hs3.up1.blk 1; have HS3 := Lib.hid hs3; clear hs3)
                refine hK.out _ _ ?_ (fun hH2 => ?_)
                · (try dsimp only); (first | go_keep | (refine ⟨?_, ?_⟩ <;> assumption))
                clear hK K hH1
                (try simp only [Act.put, List.setIfInBounds_toArray, List.set_cons_zero, List.set_cons_succ])
                refine wpAnyH_take (i := 11) (v := ?_) rfl (by kernel_rfl) (by kernel_rfl) (by kernel_rfl) (fun _ _ _ h => h) (Or.inl ⟨by rfl, ?_⟩) (by assumption) ?_
                rotate_left
                · (intro w hSw; (try dsimp only at hSw); go_simp; try with_reducible rfl)
                (try simp only [Act.put, List.setIfInBounds_toArray, List.set_cons_zero, List.set_cons_succ])
                refine wpAnyH_take (i := 12) (v := ?_) rfl (by kernel_rfl) (by kernel_rfl) (by kernel_rfl) (fun _ _ _ h => h) (Or.inl ⟨by rfl, ?_⟩) (by assumption) ?_
                rotate_left
                · (intro w hSw; (try dsimp only at hSw); go_simp; try with_reducible rfl)
                (try simp only [Act.put, List.setIfInBounds_toArray, List.set_cons_zero, List.set_cons_succ])
                refine wpAnyH_take (i := 13) (v := ?_) rfl (by kernel_rfl) (by kernel_rfl) (by kernel_rfl) (fun _ _ _ h => h) (Or.inl ⟨by rfl, ?_⟩) (by assumption) ?_
                rotate_left
                · (intro w hSw; (try dsimp only at hSw); go_simp; try with_reducible rfl)
                (try simp only [Act.put, List.setIfInBounds_toArray, List.set_cons_zero, List.set_cons_succ])
                refine wpAnyH_done (by kernel_rfl) ?_ _
                refine tail_run rfl rfl ?_
                clear hH2
                have hs4 := (HS3.out.up1).store 1 (.slice p3 (insL x.q (atQ x h) (h, want)).length c3)
                simp only [List.setIfInBounds_toArray, List.set_cons_succ, List.set_cons_zero] at hs4
                have kk1 := cell_of_block hs4.up3.blk 1 (v := .map (some mW)) rfl
                obtain ⟨oW, bW, hW⟩ := (hs4.tail.tail.tail.tail.up2).map
                obtain ⟨W5, o5, hrun5, hm5, ht5⟩ := mapG_upd (w := _) intKey Tryd.underlying54 Tryd.underlying3 bW hW h n
                have hrun6 : (Instr.mapUpdate 54 (.map (some mW)) (.int .i64 h) (.string n)).run Tryd.prog _ = .ok () W5 := hrun5
                clear hrun5
                have HEND := Lib.hid (take_ends HG.out HE1.out HTA.out HTB.out HE8.out HNW.out HGT.out hs4 ht5 hm5)
                clear hs4 bW hW ht5 hm5 k0
                go_simp
                go_wp2_with fail
                go_ret
                exact ⟨by rw [HCODE.out, HGT.out]; rfl, HEND.out⟩
              exact AllReadyH.nil
            exact AllReadyH.nil
          · rw [if_neg hlt2] at HIX
            have HAT := Lib.hid (hat.trans (Nat.le_antisymm hale (by omega)))
            clear hat hup hale hidx
            go_upto_region 23 with (go_at_call 29; refine HIX.out.mono ?_; rintro e w2 ⟨rfl, ho2⟩; have q2 := cell_of_block (ho2.keeps HQB.out (by simp)) 0 (v := .pointer (some ⟨p, 0, none⟩)) rfl; have p2 := cell_of_block (ho2.keeps HPB.out (by simp)) 1 (v := .slice pa x.q.length ca) rfl; have HSX2 := Lib.hid (HSX.out.only ho2))
            rw [← HAT.out]
            clear q0 p0 q2 p2
            have hq1 : Sep w _ (winRes 65 2 (.slice pa x.q.length ca) x.q.length (wCells x.q) :: blkRes p (queObj r (.slice pa x.q.length ca)) :: blkRes W.heap.size (ptrObj p) :: blkRes b (tabObj mT mW) :: mapRes mInt mInt x.has r :: mapRes mStr mPtr (namesOf (ta ++ (x, p) :: tb)) mT :: mapRes mInt mStr (waitsL t) mW :: (queuesOf ta ++ (queuesOf tb ++ l))) := HSX2.out.reorder (by unfold openL; intro x; simp only [List.count_append, List.count_cons, List.count_nil, List.cons_append, List.nil_append, List.append_assoc]; omega)
            have hins := ins_drew (atQ x h) (h, want) (atQ_le x h) HQL.out hq1
            have HINS := Lib.hid hins
            have q0 := cell_of_block hq1.up2.blk 0 (v := .pointer (some ⟨p, 0, none⟩)) rfl
            have p0 := cell_of_block hq1.up1.blk 1 (v := .slice pa x.q.length ca) rfl
            clear hins hq1
            refine wp_region_last (S := (fun w' => w'.cell? ⟨W.heap.size, 0, none⟩ = some (.pointer (some ⟨p, 0, none⟩)) ∧ w'.cell? ⟨p, 1, none⟩ = some (.slice pa x.q.length ca))) (by kernel_rfl) 13 _ rfl rfl rfl (by kernel_rfl) [12, 11, 10, 9, 8, 7, 6, 5, 4, 3, 2, 1, 0] (by kernel_rfl) (by kernel_rfl) ?_ (fun hHeld => ?_)
            · (try dsimp only); (first | go_keep | (refine ⟨?_, ?_⟩ <;> assumption))
            simp only [lull, List.setIfInBounds_toArray, List.set_cons_succ, List.set_cons_zero]
            refine wpAnyH_take (i := 0) (v := ?_) rfl (by kernel_rfl) (by kernel_rfl) (by kernel_rfl) (fun _ _ _ h => h) (Or.inl ⟨by rfl, ?_⟩) (by assumption) ?_
            rotate_left
            · (intro w hSw; (try dsimp only at hSw); go_simp; try with_reducible rfl)
            (try simp only [Act.put, List.setIfInBounds_toArray, List.set_cons_zero, List.set_cons_succ])
            refine wpAnyH_take (i := 1) (v := ?_) rfl (by kernel_rfl) (by kernel_rfl) (by kernel_rfl) (fun _ _ _ h => h) (Or.inl ⟨by rfl, ?_⟩) (by assumption) ?_
            rotate_left
            · (intro w hSw; (try dsimp only at hSw); go_simp; try with_reducible rfl)
            (try simp only [Act.put, List.setIfInBounds_toArray, List.set_cons_zero, List.set_cons_succ])
            refine wpAnyH_take (i := 2) (v := ?_) rfl (by kernel_rfl) (by kernel_rfl) (by kernel_rfl) (fun _ _ _ h => h) (Or.inl ⟨by rfl, ?_⟩) (by assumption) ?_
            rotate_left
            · (intro w hSw; (try dsimp only at hSw); go_simp; try with_reducible rfl)
            (try simp only [Act.put, List.setIfInBounds_toArray, List.set_cons_zero, List.set_cons_succ])
            refine wpAnyH_take (i := 3) (v := ?_) rfl (by kernel_rfl) (by kernel_rfl) (by kernel_rfl) (fun _ _ _ h => h) (Or.inl ⟨by rfl, ?_⟩) (by assumption) ?_
            rotate_left
            · (intro w hSw; (try dsimp only at hSw); go_simp; try with_reducible rfl)
            (try simp only [Act.put, List.setIfInBounds_toArray, List.set_cons_zero, List.set_cons_succ])
            refine wpAnyH_take (i := 4) (v := ?_) rfl (by kernel_rfl) (by kernel_rfl) (by kernel_rfl) (fun _ _ _ h => h) (Or.inl ⟨by rfl, ?_⟩) (by assumption) ?_
            rotate_left
            · (intro w hSw; (try dsimp only at hSw); go_simp; try with_reducible rfl)
            (try simp only [Act.put, List.setIfInBounds_toArray, List.set_cons_zero, List.set_cons_succ])
            refine wpAnyH_take (i := 5) (v := ?_) rfl (by kernel_rfl) (by kernel_rfl) (by kernel_rfl) (fun _ _ _ h => h) (Or.inl ⟨by rfl, ?_⟩) (by assumption) ?_
            rotate_left
            · (intro w hSw; (try dsimp only at hSw); go_simp; try with_reducible rfl)
            (try simp only [Act.put, List.setIfInBounds_toArray, List.set_cons_zero, List.set_cons_succ])
            refine wpAnyH_take (i := 6) (v := ?_) rfl (by kernel_rfl) (by kernel_rfl) (by kernel_rfl) (fun _ _ _ h => h) (Or.inl ⟨by rfl, ?_⟩) (by assumption) ?_
            rotate_left
            · (intro w hSw; (try dsimp only at hSw); go_simp; try with_reducible rfl)
            (try simp only [Act.put, List.setIfInBounds_toArray, List.set_cons_zero, List.set_cons_succ])
            refine wpAnyH_take (i := 7) (v := ?_) rfl (by kernel_rfl) (by kernel_rfl) (by kernel_rfl) (fun _ _ _ h => h) (Or.inl ⟨by rfl, ?_⟩) (by assumption) ?_
            rotate_left
            · (intro w hSw; (try dsimp only at hSw); go_simp; try with_reducible rfl)
            (try simp only [Act.put, List.setIfInBounds_toArray, List.set_cons_zero, List.set_cons_succ])
            refine wpAnyH_take (i := 8) (v := ?_) rfl (by kernel_rfl) (by kernel_rfl) (by kernel_rfl) (fun _ _ _ h => h) (Or.inl ⟨by rfl, ?_⟩) (by assumption) ?_
            rotate_left
            · (intro w hSw; (try dsimp only at hSw); go_simp; try with_reducible rfl)
            (try simp only [Act.put, List.setIfInBounds_toArray, List.set_cons_zero, List.set_cons_succ])
            refine wpAnyH_ready (rs := [9]) (by kernel_rfl) (by simp) ?_
            refine AllReadyH.cons rfl (fun K hK => ?_) ?_
            · go_simp
              refine hK.out _ _ ?_ (fun hH1 => ?_)
              · (try dsimp only); (first | go_keep | (refine ⟨?_, ?_⟩ <;> assumption))
              clear hK K hHeld
              (try simp only [Act.put, List.setIfInBounds_toArray, List.set_cons_zero, List.set_cons_succ])
              refine wpAnyH_ready (rs := [10]) (by kernel_rfl) (by simp) ?_
              refine AllReadyH.cons rfl (fun K hK => ?_) ?_
              · (go_simp; go_wp2_with (go_at_call 31; refine HINS.out.mono ?_; rintro e w3 ⟨p3, c3, rfl, hs3⟩); have k0 := cell_of_block hs3.up2.blk 0 (v := .pointer (some ⟨p, 0, none⟩)) rfl; have k1 := cell_of_block hs3.up1.blk 1 (v := .slice pa x.q.length ca) rfl; have kf := free_of_block hs3.up1.blk 1; have HS3 := Lib.hid hs3; clear hs3)
                refine hK.out _ _ ?_ (fun hH2 => ?_)
                · (try dsimp only); (first | go_keep | (refine ⟨?_, ?_⟩ <;> assumption))
                clear hK K hH1
                (try simp only [Act.put, List.setIfInBounds_toArray, List.set_cons_zero, List.set_cons_succ])
                refine wpAnyH_take (i := 11) (v := ?_) rfl (by kernel_rfl) (by kernel_rfl) (by kernel_rfl) (fun _ _ _ h => h) (Or.inl ⟨by rfl, ?_⟩) (by assumption) ?_
                rotate_left
                · (intro w hSw; (try dsimp only at hSw); go_simp; try with_reducible rfl)
                (try simp only [Act.put, List.setIfInBounds_toArray, List.set_cons_zero, List.set_cons_succ])
                refine wpAnyH_take (i := 12) (v := ?_) rfl (by kernel_rfl) (by kernel_rfl) (by kernel_rfl) (fun _ _ _ h => h) (Or.inl ⟨by rfl, ?_⟩) (by assumption) ?_
                rotate_left
                · (intro w hSw; (try dsimp only at hSw); go_simp; try with_reducible rfl)
                (try simp only [Act.put, List.setIfInBounds_toArray, List.set_cons_zero, List.set_cons_succ])
                refine wpAnyH_take (i := 13) (v := ?_) rfl (by kernel_rfl) (by kernel_rfl) (by kernel_rfl) (fun _ _ _ h => h) (Or.inl ⟨by rfl, ?_⟩) (by assumption) ?_
                rotate_left
                · (intro w hSw; (try dsimp only at hSw); go_simp; try with_reducible rfl)
                (try simp only [Act.put, List.setIfInBounds_toArray, List.set_cons_zero, List.set_cons_succ])
                refine wpAnyH_done (by kernel_rfl) ?_ _
                refine tail_run rfl rfl ?_
                clear hH2
                have hs4 := (HS3.out.up1).store 1 (.slice p3 (insL x.q (atQ x h) (h, want)).length c3)
                simp only [List.setIfInBounds_toArray, List.set_cons_succ, List.set_cons_zero] at hs4
                have kk1 := cell_of_block hs4.up3.blk 1 (v := .map (some mW)) rfl
                obtain ⟨oW, bW, hW⟩ := (hs4.tail.tail.tail.tail.up2).map
                obtain ⟨W5, o5, hrun5, hm5, ht5⟩ := mapG_upd (w := _) intKey Tryd.underlying54 Tryd.underlying3 bW hW h n
                have hrun6 : (Instr.mapUpdate 54 (.map (some mW)) (.int .i64 h) (.string n)).run Tryd.prog _ = .ok () W5 := hrun5
                clear hrun5
                have HEND := Lib.hid (take_ends HG.out HE1.out HTA.out HTB.out HE8.out HNW.out HGT.out hs4 ht5 hm5)
                clear hs4 bW hW ht5 hm5 k0
                go_simp
                go_wp2_with fail
                go_ret
                exact ⟨by rw [HCODE.out, HGT.out]; rfl, HEND.out⟩
              exact AllReadyH.nil
            exact AllReadyH.nil

end Go.Proofs.YtipfjjcokajjjaaDoor
