/-
  What is proved here: (*lock.Table).For: for whom a holder waits.
  No condition: each lemma names its own.
-/
import Derived.Test.YtipfjjcokajjjaaDoorLkU
import Derived.Deep.LoopGhost
set_option linter.unusedVariables false
set_option linter.unusedSimpArgs false
namespace Go.Proofs.YtipfjjcokajjjaaDoor
open Go.RowKit

theorem same_name {t : Tab} (hg : Good t) {x y : Th} (hx : x ∈ t) (hy : y ∈ t) (h : x.name = y.name) : x = y := by
  obtain ⟨i, hi, rfl⟩ := List.getElem_of_mem hx
  obtain ⟨j, hj, rfl⟩ := List.getElem_of_mem hy
  have hp := List.pairwise_iff_getElem.1 hg.sorted
  rcases Nat.lt_trichotomy i j with q | q | q
  · exact absurd h (ltB_ne (hp i j hi hj q))
  · subst q; rfl
  · exact absurd h.symm (ltB_ne (hp j i hj hi q))

theorem modes_idx {q : HM} (hq : Modes q) {i j : Nat} {x y : Int × Int} (hi : q[i]? = some x) (hj : q[j]? = some y) (h : x.1 = y.1) : i = j := by
  obtain ⟨li, ei⟩ := List.getElem?_eq_some_iff.1 hi
  obtain ⟨lj, ej⟩ := List.getElem?_eq_some_iff.1 hj
  have hp := List.pairwise_iff_getElem.1 hq.1
  rcases Nat.lt_trichotomy i j with r | r | r
  · have := hp i j (by simpa using li) (by simpa using lj) r
    simp only [List.getElem_map, ei, ej] at this
    exact absurd h this
  · exact r
  · have := hp j i (by simpa using lj) (by simpa using li) r
    simp only [List.getElem_map, ei, ej] at this
    exact absurd h.symm this

theorem isFor_iff {t : Tab} (hg : Good t) {x : Th} (hx : x ∈ t) {k : Nat} {h m : Int} (hk : x.q[k]? = some (h, m)) (o : Int) :
    IsFor t h o ↔ (∃ y ∈ x.q.take k, y.1 = o) ∨ ∃ y ∈ x.has, y.1 = o ∧ barsB y h m = true := by
  constructor
  · rintro ⟨x', hx', m', a, b, e, hor⟩
    have h1 : (h, x'.name) ∈ waitsL t := mem_waits.2 ⟨x', hx', rfl, (h, m'), by rw [e]; simp, rfl⟩
    have h2 : (h, x.name) ∈ waitsL t := mem_waits.2 ⟨x, hx, rfl, (h, m), List.mem_of_getElem? hk, rfl⟩
    obtain rfl := same_name hg hx' hx (waits_uniq hg.apart h1 h2)
    have h3 : x'.q[a.length]? = some (h, m') := by rw [e]; simp
    have hl := modes_idx (hg.each x' hx).q h3 hk rfl
    subst hl
    rw [h3] at hk
    cases hk
    have h4 : x'.q.take a.length = a := by rw [e, List.take_left]
    rw [h4]
    exact hor
  · intro hor
    have hl := (List.getElem?_eq_some_iff.1 hk).1
    refine ⟨x, hx, m, x.q.take k, x.q.drop (k + 1), ?_, hor⟩
    have : (h, m) = x.q[k] := (List.getElem?_eq_some_iff.1 hk).2.symm
    rw [this, List.getElem_cons_drop, List.take_append_drop]
theorem isFor_none {t : Tab} (hg : Good t) {h : Int} (hw : waitsM t h = none) (o : Int) : ¬ IsFor t h o := by
  rintro ⟨x, hx, m, a, b, e, _⟩
  exact waitsM_none hg.each hw (h, x.name) (mem_waits.2 ⟨x, hx, rfl, (h, m), by rw [e]; simp, rfl⟩) rfl

/-- A look-up in a map of numbers. -/
theorem num_look {P : Program} {w : World} {mty kt et : TypeId} {r : Nat} {o : Obj} {ks : List (Int × Int)} (hm : P.underlying mty = some (.map kt et)) (hk : P.underlying kt = some (.int .i64)) (hz : ∀ w, (zeroValue et).run P w = .ok (.int .i64 0) w) (hb : w.heap[r]? = some o) (h : MapIs mInt mInt ks o) (a : Int) :
    ∃ v, (Instr.lookup mty (.map (some r)) (.int .i64 a) false).run P w = .ok (.int .i64 v) w := by
  by_cases hx : ∃ x ∈ ks, x.1 = a
  · obtain ⟨⟨x1, x2⟩, hx, rfl⟩ := hx
    exact ⟨x2, mapG_look intKey hm hk hb h hx false⟩
  · exact ⟨0, mapG_miss intKey hm hk hb h (fun x hx' e => hx ⟨x, hx', e⟩) (hz w) false⟩
theorem upd_keys (ks : List (Int × Int)) (a v o : Int) : (∃ y ∈ updL ks a v, y.1 = o) ↔ o = a ∨ ∃ y ∈ ks, y.1 = o := by
  unfold updL
  constructor
  · rintro ⟨y, hy, rfl⟩
    rcases List.mem_append.1 hy with q | q
    · exact .inr ⟨y, (List.mem_filter.1 q).1, rfl⟩
    · simp at q; subst q; exact .inl rfl
  · rintro (rfl | ⟨y, hy, rfl⟩)
    · exact ⟨(o, v), by simp, rfl⟩
    · by_cases e : y.1 = a
      · exact ⟨(a, v), by simp, e.symm⟩
      · exact ⟨y, by simp [hy, e], rfl⟩

set_option maxRecDepth 100000 in
theorem for_nil (h : Int) (W : World) : Calls Tryd.prog 22 #[.pointer none, .int .i64 h] W fun e W' => e = .returned (.slice none 0 0) ∧ Only [] W W' := by
  have hw := fun V => waits_nil h V
  have HO := Lib.hid (Only.alloc [] W (.cells #[.int .i64 h] 3))
  go_enter Tryd.func22, Tryd.ntmps22
  go_wp2_with (go_at_call 18; refine (hw _).mono ?_; rintro e w2 ⟨rfl, rfl⟩)
  go_ret
  exact ⟨rfl, HO.out⟩

/-- The numbers of whom h waits for, as far as they are found. -/
def MetAt (W : World) (mm : Nat) (S : Int → Prop) : Prop := ∃ (o : Obj) (ks : List (Int × Int)), W.heap[mm]? = some o ∧ MapIs mInt mInt ks o ∧ ∀ a, (∃ y ∈ ks, y.1 = a) ↔ S a

set_option maxRecDepth 100000 in
set_option maxHeartbeats 4000000 in
theorem for_any {w W : World} {l : List Res} {b : Nat} {t : Tab} (hg : Good t) (htog : Tog w) (h : Int) (hs : Sep w W (tabRes b t :: l)) :
    Calls Tryd.prog 22 #[.pointer (some ⟨b, 0, none⟩), .int .i64 h] W fun e W' =>
      ∃ xs p q, e = .returned (.slice p (List.length xs) q) ∧ Rising xs ∧ (∀ o, o ∈ xs ↔ IsFor t h o) ∧ Sep w W' (rowRes 3 1 (.slice p xs.length q) xs.length (intCells xs) :: tabRes b t :: l) := by
  have hsF := hs.forget (.cells #[.int .i64 h] 3)
  have hwt := waits_any hg h hsF
  have HS := Lib.hid hs
  have HWT := Lib.hid hwt
  have hb0 : (W.alloc (.cells #[.int .i64 h] 3)).heap[W.heap.size]? = some (.cells #[.int .i64 h] 3 (0, 0)) := heap_alloc_self
  have b0 := cell_of_block hb0 0 (v := .int .i64 h) rfl
  cases hwm : waitsM t h with
  | none =>
    rw [hwm] at HWT
    have HN := Lib.hid (isFor_none hg hwm)
    have HSF := Lib.hid hsF
    clear hs hsF hwt hwm hb0
    go_enter Tryd.func22, Tryd.ntmps22
    go_wp2_with (go_at_call 18; refine HWT.out.mono ?_; rintro e w2 ⟨rfl, rfl⟩; simp only [Option.getD_none, Option.isSome_none])
    go_ret
    exact ⟨[], none, 0, rfl, List.Pairwise.nil, fun o => by simp [HN.out o], HSF.out.row_nil _ _⟩
  | some n =>
    rw [hwm] at HWT
    obtain ⟨x, hxt, hxn, ⟨h', m⟩, hyq, he⟩ := mem_waits.1 (waitsM_some hg.each hwm)
    simp only at he
    subst he
    obtain ⟨k, hkl, hke⟩ := List.getElem_of_mem hyq
    have hk : x.q[k]? = some (h', m) := by rw [List.getElem?_eq_getElem hkl, hke]
    have hgx : getT t n = some x := by
      rcases split_sorted hg.sorted n with ⟨y, a1, a2, a3, _⟩ | ⟨_, a2, _⟩
      · rw [a1, same_name hg a3 hxt (a2.trans hxn.symm)]
      · exact absurd hxn (a2 x hxt)
    have HFOR := Lib.hid (isFor_iff hg hxt hk)
    have hgt := hg.each x hxt
    obtain ⟨⟨⟨mT, mW⟩, tp⟩, hs0, ht⟩ := hs.open
    have ht : tp.map Prod.fst = t := ht
    obtain ⟨_, _, hsp⟩ := getT_some hg hgx
    obtain ⟨ta, p, tb, rfl, hta, htb⟩ := names_hit ht hsp
    obtain ⟨r, v, hso⟩ := open_open hs0
    have hlk := fun (V : World) (ho : Only [] W V) => mapG_look (P := Tryd.prog) (w := V) strKey Tryd.underlying53 Tryd.underlying9 ((hso.only ho).mapOf (mk := mStr) (mv := mPtr) (ks := namesOf (ta ++ (x, p) :: tb)) (r := mT) (by simp [openL])).choose_spec.1 ((hso.only ho).mapOf (mk := mStr) (mv := mPtr) (ks := namesOf (ta ++ (x, p) :: tb)) (r := mT) (by simp [openL])).choose_spec.2 (a := n) (v := p) (by rw [← hxn]; exact names_mem) false
    rcases (hso.up2).win with ⟨g1, g2, g3⟩ | ⟨g, o, cap, cur, A0, S0, rfl, hw⟩
    · rw [g2] at hkl; omega
    have hkc := wCells_at hk
    have hixF := fun (V : World) (ho : Only [] W V) (hbk : V.heap[W.heap.size]? = some (.cells #[.int .i64 h'] 3 (0, 0))) => index_any 38 #[.pointer (some ⟨W.heap.size, 0, none⟩)] (fun y => decide (y.1 = h')) (enters_of Tryd.func38 (by kernel_rfl) rfl) (for1_any (F := []) hbk rfl (by simp)) (modes_len hgt.q) (((hso.only ho).up2))
    have hidx : idxI x.q (fun y => decide (y.1 = h')) = (k : Int) := by
      have h1 : idxN x.q (fun y => decide (y.1 = h')) = k := idxN_hit hk (by simp) (fun j hj y hy => by
        simp only [decide_eq_false_iff_not]
        intro e
        have := modes_idx hgt.q hy hk e
        omega)
      unfold idxI
      rw [h1, if_pos hkl]
    rw [hidx] at hixF
    have hlen := modes_len hgt.q
    have hmm := hgt.q.2 _ hyq
    have bT := hso.blkOf (g := b) (o := tabObj mT mW) (by simp [openL])
    have bP := hso.blk
    have hnq : x.q.length ≤ cap := hw.le
    obtain ⟨oH, bH, hH⟩ := hso.up1.map
    have HLK := Lib.hid hlk
    have HIX := Lib.hid hixF
    have HBT := Lib.hid bT
    have HBP := Lib.hid bP
    have HBH := Lib.hid bH
    have HH := Lib.hid hH
    have HW := Lib.hid hw
    have HK := Lib.hid hk
    have HKC := Lib.hid hkc
    have HMH := Lib.hid hgt.has
    have HMQ := Lib.hid hgt.q
    have HTOG := Lib.hid (htog.only hs.old)
    have HMM := Lib.hid hmm
    have HB0 := Lib.hid hb0
    have hmk := @run_makeMap Tryd.prog
    obtain ⟨NQ, hNQ⟩ : ∃ NQ, NQ = x.q.length := ⟨_, rfl⟩
    have HNQ := Lib.hid hNQ
    have q1 : k < NQ := by rw [hNQ]; exact hkl
    rw [← hNQ] at hnq hlen
    obtain ⟨V0, hV0⟩ : ∃ V0, V0 = W.alloc (.cells #[.int .i64 h'] 3) := ⟨_, rfl⟩
    have HO0 : Hid (Only [] W V0) := Lib.hid (by rw [hV0]; exact Only.alloc [] W _)
    rw [← hV0] at HB0 HWT b0
    have d0 := cell_of_block (HO0.out.keeps bT (by simp)) 0 (v := .map (some mT)) rfl
    have lk0 := hlk V0 HO0.out
    have e1 := cell_of_block (HO0.out.keeps bP (by simp)) 1 (v := .slice (some ⟨g, o, none⟩) NQ cap) (by rw [hNQ]; rfl)
    have hix0 := hixF V0 HO0.out HB0.out
    have HIX0 := Lib.hid hix0
    clear hlk hixF hix0 bT bP bH hH hw hk hkc hmm hs0 hs hsF hso hyq hke hkl hgx hsp ht hta htb hidx hb0 hNQ hwt hwm
    have HV0 := Lib.hid hV0
    clear hV0
    go_enter Tryd.func22, Tryd.ntmps22
    go_upto_region 1 with fail
    rw [← HV0.out]
    go_upto_region 6 with (first | (go_at_call 18; refine HWT.out.mono ?_; rintro e w2 ⟨rfl, rfl⟩; simp only [Option.getD_some, Option.isSome_some]) | (go_at_call 29; rw [HNQ.out]; refine HIX0.out.mono ?_; rintro e w3 ⟨rfl, ho3⟩))
    have HO3 := Lib.hid (HO0.out.trans ho3 (Within.nil _ _))
    have HB3 := Lib.hid (ho3.keeps HB0.out (by simp))
    obtain ⟨mm, hmmb⟩ : ∃ mm, mm = w3.heap.size := ⟨_, rfl⟩
    obtain ⟨w4, hw4⟩ : ∃ w4, w4 = w3.alloc (.map #[] 0) := ⟨_, rfl⟩
    have HO4 : Hid (Only [] W w4) := Lib.hid (by rw [hw4]; exact HO3.out.trans (Only.alloc [] _ _) (Within.nil _ _))
    have HM4 : Hid (MetAt w4 mm (fun _ => False)) := Lib.hid ⟨_, [], by rw [hw4, hmmb]; exact heap_alloc_self, mapIs_nil _ _ _, by simp⟩
    have HB4 : Hid (w4.heap[W.heap.size]? = some (.cells #[.int .i64 h'] 3 (0, 0))) := Lib.hid (by rw [hw4]; exact (heap_alloc_lt (lt_of_block HB3.out)).trans HB3.out)
    have HMB : Hid (W.heap.size < mm) := Lib.hid (by rw [hmmb]; exact lt_of_block HB3.out)
    have e4 := cell_of_block (HO4.out.keeps HBP.out (by simp)) 1 (v := .slice (some ⟨g, o, none⟩) NQ cap) (by rw [HNQ.out]; rfl)
    have HW4 := Lib.hid hw4
    have HMMB := Lib.hid hmmb
    clear hw4 hmmb ho3 e1 lk0 d0 b0
    go_upto_region 7 with fail
    rw [← HMMB.out, ← HW4.out]
    have kcap : k ≤ cap := by omega
    have kcapz : (k : Int) ≤ (cap : Int) := by omega
    go_wp2_with fail
    clear e4
    go_loopg [42, 11] k (fun gg s42 _ wr => ∃ j : Nat, j ≤ k ∧ k - j ≤ gg ∧ s42 = .int .i64 j ∧ Aside (Only [] W wr) ∧ Aside (wr.heap[W.heap.size]? = some (.cells #[.int .i64 h'] 3 (0, 0))) ∧ Aside (MetAt wr mm (fun a => ∃ y ∈ x.q.take j, y.1 = a)))
    case atStart => exact ⟨0, Nat.zero_le _, by omega, rfl, HO4.out, HB4.out, (by have := HM4.out; simpa using this : MetAt w4 mm (fun a => ∃ y ∈ x.q.take 0, y.1 = a))⟩
    case round =>
      obtain ⟨j, hjk, hgg, rfl, HO, HB, HMT⟩ := hrel
      have hO : Only [] W wr := HO
      by_cases hlt : j < k
      · have hltz : (j : Int) < (k : Int) := by omega
        obtain ⟨y, hy⟩ : ∃ y, x.q[j]? = some y := ⟨x.q[j]'(by rw [← HNQ.out]; omega), List.getElem?_eq_getElem _⟩
        obtain ⟨y1, y2⟩ := y
        obtain ⟨hy1, hy2⟩ := wCells_at hy
        have hgl := lt_of_block HW.out.blk
        have c0 := (HW.out.cell hy1).1
        have c1 := (HW.out.cell hy2).1
        rw [← hO.cell (p := ⟨g, o + j * 2, none⟩) hgl (by simp)] at c0
        rw [← hO.cell (p := ⟨g, o + (j * 2 + 1), none⟩) hgl (by simp), ← Nat.add_assoc] at c1
        simp only at c0 c1
        obtain ⟨V, hV⟩ : ∃ V, V = wr.alloc (.cells #[.int .i64 y1, .int .i64 y2] 65) := ⟨_, rfl⟩
        obtain ⟨om, ks, hmb, hmi, hmk2⟩ := (show MetAt wr mm (fun a => ∃ y ∈ x.q.take j, y.1 = a) from HMT)
        have hOV : Only [] wr V := by rw [hV]; exact Only.alloc [] _ _
        have hmbV := hOV.keeps hmb (by simp)
        obtain ⟨v0, lkm⟩ := num_look (P := Tryd.prog) (w := V) Tryd.underlying58 Tryd.underlying3 Tryd.zInt hmbV hmi y1
        obtain ⟨W5, o5, hup, hm5, ht5⟩ := mapG_upd (P := Tryd.prog) (w := V) intKey Tryd.underlying58 Tryd.underlying3 hmbV hmi y1 (wrap64 (v0 + 1))
        have hup2 : (Instr.mapUpdate 58 (.map (some mm)) (.int .i64 y1) (.int .i64 (wrap64 (v0 + 1)))).run Tryd.prog V = .ok () W5 := hup
        clear hup
        have f0 := cell_of_block (show V.heap[wr.heap.size]? = some (.cells #[.int .i64 y1, .int .i64 y2] 65 (0, 0)) from by rw [hV]; exact heap_alloc_self) 0 (v := .int .i64 y1) rfl
        have HREL : Hid (Only [] W W5 ∧ W5.heap[W.heap.size]? = some (.cells #[.int .i64 h'] 3 (0, 0)) ∧ MetAt W5 mm (fun a => ∃ y ∈ x.q.take (j + 1), y.1 = a)) := by
          refine Lib.hid ⟨(hO.trans hOV (Within.nil _ _)).trans ht5.2 (fun k hk => by right; simp at hk; have := HMB.out; omega), ?_, o5, _, ht5.1, hm5, fun a => ?_⟩
          · exact ht5.2.keeps (hOV.keeps HB (by simp)) (by simp; have := HMB.out; omega)
          · rw [upd_keys, hmk2, List.take_add_one, hy]
            constructor
            · rintro (rfl | ⟨y, hy, e⟩)
              · exact ⟨(a, y2), by simp, rfl⟩
              · exact ⟨y, by simp [hy], e⟩
            · rintro ⟨y, hy, e⟩
              simp only [Option.toList_some, List.mem_append, List.mem_singleton] at hy
              rcases hy with hy | rfl
              · exact .inr ⟨y, hy, e⟩
              · exact .inl e.symm
        have HV := Lib.hid hV
        clear hV hmb hmi hmk2 hOV hmbV hm5 ht5 hy hy1 hy2 hgl hO
        go_upto_region 10 with fail
        rw [← HV.out]
        go_wp2_with fail
        go_roundg (k - (j + 1))
        case measure => omega
        case rel => exact ⟨j + 1, by omega, by omega, by go_num, HREL.out.1, HREL.out.2.1, HREL.out.2.2⟩
      · have hjk' : j = k := by omega
        subst hjk'
        have hltz : ¬ ((j : Int) < (j : Int)) := by omega
        obtain ⟨w6, hw6⟩ : ∃ w6, w6 = wr := ⟨_, rfl⟩
        subst hw6
        have hOH := hO.keeps HBH.out (by simp)
        obtain ⟨om, ksm, hmb, hmi, hmk2⟩ := (show MetAt w6 mm (fun a => ∃ y ∈ x.q.take j, y.1 = a) from HMT)
        have hmlt : mm < w6.heap.size := lt_of_block hmb
        have hrl : r < W.heap.size := lt_of_block HBH.out
        have hWl := hO.size
        obtain ⟨W1, hrun, hit, ho1, hsz⟩ := iter_start (P := Tryd.prog) hOH HH.out 58 Tryd.underlying58
        obtain ⟨it, hitb⟩ : ∃ it, it = w6.heap.size := ⟨_, rfl⟩
        rw [← hitb] at hrun hit hmlt
        have hmt := HMM.out.2.2
        obtain ⟨Full, hFull⟩ : ∃ Full : Int → Prop, Full = (fun a => (∃ y ∈ x.q.take j, y.1 = a) ∨ ∃ y ∈ x.has, y.1 = a ∧ barsB y h' m = true) := ⟨_, rfl⟩
        have HIR : Hid (it ≠ r ∧ it ≠ mm ∧ it ≠ W.heap.size ∧ W.heap.size ≤ it ∧ W.heap.size < mm) := Lib.hid ⟨by omega, by omega, by have := HMB.out; omega, by omega, HMB.out⟩
        have HST : Hid (Only [] W W1 ∧ W1.heap[W.heap.size]? = some (.cells #[.int .i64 h'] 3 (0, 0)) ∧ IterIs W1 mInt mInt it r x.has ∧ MetAt W1 mm (fun a => ∃ y ∈ x.q.take j, y.1 = a)) :=
          Lib.hid ⟨hO.trans ho1 (Within.nil _ _), ho1.keeps HB (by simp), hit, om, ksm, ho1.keeps hmb (by simp), hmi, hmk2⟩
        have p6 := cell_of_block (hO.keeps HBP.out (by simp)) 0 (v := .map (some r)) rfl
        have HFULL := Lib.hid hFull
        have HITB := Lib.hid hitb
        clear hOH hmb hmi hmk2 hmlt hWl hit ho1 hsz hFull hO hitb
        go_wp2_with (at_range; refine wpList_range_run _ rfl _ _ rfl _ rfl hrun ?_)
        go_loopg [12, 13] x.has.length (fun gg _ _ wr => ∃ (todo : HM) (S' : Int → Prop), todo.length ≤ gg ∧ Aside (Only [] W wr) ∧ Aside (wr.heap[W.heap.size]? = some (.cells #[.int .i64 h'] 3 (0, 0))) ∧ Aside (IterIs wr mInt mInt it r todo) ∧ Aside (∀ y ∈ todo, y ∈ x.has) ∧ Aside (MetAt wr mm S') ∧ Aside (∀ a, (S' a ∨ ∃ y ∈ todo, y.1 = a ∧ barsB y h' m = true) ↔ Full a))
        case atStart => exact ⟨x.has, _, Nat.le_refl _, HST.out.1, HST.out.2.1, HST.out.2.2.1, (fun _ q => q : ∀ y ∈ x.has, y ∈ x.has), HST.out.2.2.2, (fun a => by rw [HFULL.out] : ∀ a, ((∃ y ∈ x.q.take j, y.1 = a) ∨ ∃ y ∈ x.has, y.1 = a ∧ barsB y h' m = true) ↔ Full a)⟩
        case round =>
          obtain ⟨todo, S', hlen2, HO2, HB2, HI, HIN, HME, HFU⟩ := hrel
          rcases iter_next' (P := Tryd.prog) (show IterIs wr mInt mInt it r todo from HI) HIR.out.1 with ⟨rfl, hnx⟩ | ⟨⟨x1, x2⟩, todo', W2, hp, hnx, hen, hi2, ho2⟩
          · have hF : ∀ a, S' a ↔ Full a := fun a => by have := (show ∀ a, (S' a ∨ ∃ y ∈ ([] : HM), y.1 = a ∧ barsB y h' m = true) ↔ Full a from HFU) a; simpa using this
            obtain ⟨om, ks, hmb, hmi, hmk2⟩ := (show MetAt wr mm S' from HME)
            have hO : Only [] W wr := HO2
            have hkb : ∀ z ∈ ks, 1 ≤ z.1 ∧ z.1 ≤ 1000 := by
              intro z hz
              have h1 := (hF z.1).1 ((hmk2 z.1).1 ⟨z, hz, rfl⟩)
              rw [HFULL.out] at h1
              rcases h1 with ⟨y, hy, e⟩ | ⟨y, hy, e, _⟩
              · have := HMQ.out.2 y (List.mem_of_mem_take hy); omega
              · have := HMH.out.2 y hy; omega
            have hnd := hmi.nodup
            have hkl : ks.length ≤ 100000 := by
              have h1 : (ks.map (fun x => x.1.toNat)).Nodup := by
                rw [show ks.map (fun x => x.1.toNat) = (ks.map Prod.fst).map Int.toNat from by rw [List.map_map]; rfl]
                refine List.pairwise_map.2 (List.Pairwise.imp_of_mem ?_ hnd)
                intro a b ha hb hne e
                obtain ⟨x, hx, rfl⟩ := List.mem_map.1 ha
                obtain ⟨y, hy, rfl⟩ := List.mem_map.1 hb
                have := hkb x hx
                have := hkb y hy
                omega
              have h2 := nodup_len 1001 _ h1 (fun a ha => by
                obtain ⟨x, hx, rfl⟩ := List.mem_map.1 ha
                have := hkb x hx
                omega)
              rw [List.length_map] at h2
              omega
            have hsort := sortedA_any (HS.out.only hO) hmb hmi (fun z hz => by
              have := hkb z hz
              have h1 : IntKind.i64.min = -9223372036854775808 := by decide
              simp [Lit.wf]
              omega) hkl
            have HSORT := Lib.hid hsort
            have hxs : (sortI (ks.map Prod.fst)).length = ks.length := by unfold sortI; rw [List.length_mergeSort, List.length_map]
            have HEND : Hid ((sortI (ks.map Prod.fst)).length = ks.length ∧ Rising (sortI (ks.map Prod.fst)) ∧ ∀ o, o ∈ sortI (ks.map Prod.fst) ↔ IsFor t h' o) := by
              refine Lib.hid ⟨hxs, sortI_rising hnd, fun o => ?_⟩
              rw [sortI_mem, HFOR.out o]
              have h1 := (hmk2 o).trans (hF o)
              rw [HFULL.out] at h1
              have h2 : (∃ y ∈ ks, y.1 = o) ↔ ((∃ y ∈ x.q.take j, y.1 = o) ∨ ∃ y ∈ x.has, y.1 = o ∧ barsB y h' m = true) := h1
              rw [← h2, List.mem_map]
            clear hsort hkl hnd hkb hmb hmi hmk2 hF hO hxs
            go_wp2_with (first | (at_next; refine wpList_next_run _ rfl _ rfl _ rfl hnx ?_) | (go_at_call 40; refine (keysA_any _ _).mono ?_; rintro e w2 ⟨rfl, rfl⟩) | (go_at_call 39; refine HSORT.out.mono ?_; rintro e w3 ⟨p, q, rfl, hs3⟩))
            have HS3 := Lib.hid hs3; clear hs3
            go_ret
            exact ⟨sortI (ks.map Prod.fst), p, q, by rw [HEND.out.1]; rfl, HEND.out.2.1, HEND.out.2.2, by rw [HEND.out.1]; exact HS3.out⟩
          · have hO2 : Only [] W W2 := (show Only [] W wr from HO2).trans ho2 (fun k hk => by right; simp at hk; have := HIR.out.2.2.2.1; omega)
            have hB2 := ho2.keeps (show wr.heap[W.heap.size]? = some (.cells #[.int .i64 h'] 3 (0, 0)) from HB2) (by simp; exact fun e => HIR.out.2.2.1 e.symm)
            obtain ⟨om, ks, hmb, hmi, hmk2⟩ := (show MetAt wr mm S' from HME)
            have hmb2 := ho2.keeps hmb (by simp; exact fun e => HIR.out.2.1 e.symm)
            have hxin : (x1, x2) ∈ x.has := (show ∀ y ∈ todo, y ∈ x.has from HIN) _ (hp.mem_iff.2 (by simp))
            have hx2 := (HMH.out.2 _ hxin).2.2
            simp only at hx2
            have hlt2 : todo'.length < todo.length := by rw [hp.length_eq]; simp
            have hfu : ∀ a, (S' a ∨ (a = x1 ∧ barsB (x1, x2) h' m = true) ∨ ∃ y ∈ todo', y.1 = a ∧ barsB y h' m = true) ↔ Full a := by
              intro a
              have h1 := (show ∀ a, (S' a ∨ ∃ y ∈ todo, y.1 = a ∧ barsB y h' m = true) ↔ Full a from HFU) a
              rw [← h1]
              constructor
              · rintro (q | ⟨rfl, q⟩ | ⟨y, hy, e⟩)
                · exact .inl q
                · exact .inr ⟨_, hp.mem_iff.2 (List.mem_cons_self ..), rfl, q⟩
                · exact .inr ⟨y, hp.mem_iff.2 (List.mem_cons_of_mem _ hy), e⟩
              · rintro (q | ⟨y, hy, e, e2⟩)
                · exact .inl q
                · rcases List.mem_cons.1 (hp.mem_iff.1 hy) with rfl | q
                  · exact .inr (.inl ⟨e.symm, e2⟩)
                  · exact .inr (.inr ⟨y, q, e, e2⟩)
            have hin2 : ∀ y ∈ todo', y ∈ x.has := fun y hy => (show ∀ y ∈ todo, y ∈ x.has from HIN) y (hp.mem_iff.2 (by simp [hy]))
            obtain ⟨t1, t2, t3, t4⟩ := (HTOG.out.only hO2).at
            have b2 := cell_of_block hB2 0 (v := .int .i64 h') rfl
            have p2 := cell_of_block (hO2.keeps HBP.out (by simp)) 1 (v := .slice (some ⟨g, o, none⟩) NQ cap) (by rw [HNQ.out]; rfl)
            have hgl := lt_of_block HW.out.blk
            have c1 := (HW.out.cell HKC.out.2).1
            rw [← hO2.cell (p := ⟨g, o + (j * 2 + 1), none⟩) hgl (by simp), ← Nat.add_assoc] at c1
            have q1z : (j : Int) < (NQ : Int) := by omega
            have q0z : (0 : Int) ≤ (j : Int) := by omega
            have HREL : Hid (∀ S2 W5, Only [mm] W2 W5 → MetAt W5 mm S2 → (∀ a, S2 a ↔ S' a ∨ (a = x1 ∧ barsB (x1, x2) h' m = true)) → ∃ (todo : HM) (S' : Int → Prop), todo.length ≤ todo'.length ∧ Aside (Only [] W W5) ∧ Aside (W5.heap[W.heap.size]? = some (.cells #[.int .i64 h'] 3 (0, 0))) ∧ Aside (IterIs W5 mInt mInt it r todo) ∧ Aside (∀ y ∈ todo, y ∈ x.has) ∧ Aside (MetAt W5 mm S') ∧ Aside (∀ a, (S' a ∨ ∃ y ∈ todo, y.1 = a ∧ barsB y h' m = true) ↔ Full a)) := by
              refine Lib.hid fun S2 W5 ho5 hme hs2 => ⟨todo', S2, Nat.le_refl _, ?_, ?_, ?_, hin2, hme, ?_⟩
              · exact hO2.trans ho5 (fun k hk => by right; simp at hk; have := HIR.out.2.2.2.2; omega)
              · exact ho5.keeps hB2 (by simp; have := HIR.out.2.2.2.2; omega)
              · exact hi2.only ho5 (by simp; exact HIR.out.2.1) (by simp; have := HIR.out; omega)
              · show ∀ a, (S2 a ∨ ∃ y ∈ todo', y.1 = a ∧ barsB y h' m = true) ↔ Full a
                intro a
                rw [hs2 a, or_assoc, hfu a]
            obtain ⟨v0, lkm⟩ := num_look (P := Tryd.prog) (w := W2) Tryd.underlying58 Tryd.underlying3 Tryd.zInt hmb2 hmi x1
            have lkmN := fun n => num_look (P := Tryd.prog) (w := W2.drewN n) Tryd.underlying58 Tryd.underlying3 Tryd.zInt hmb2 hmi x1
            have HME2 : Hid (MetAt W2 mm S') := Lib.hid ⟨om, ks, hmb2, hmi, hmk2⟩
            have HLT2 := Lib.hid hlt2
            clear hO2 hB2 hmb hmb2 hmi hmk2 hxin hlt2 hfu hin2 hgl hi2 ho2 lkm lkmN hp
            by_cases he : x1 = h'
            · subst he
              have hb0 : barsB (x1, x2) x1 m = false := by simp [barsB]
              have HRR := Lib.hid (fun nq => HREL.out S' (W2.drewN nq) (Only.drewN _ _ _) HME2.out (fun a => by rw [hb0]; simp))
              clear hb0
              go_wp2_with (at_next; refine wpList_next_run _ rfl _ rfl _ rfl hnx ?_)
              go_quiet (fail)
              go_wp2_with fail
              go_roundg (todo'.length)
              case measure => have := HLT2.out; omega
              case rel => exact HRR.out nq
            · have hne : (x1 != h') = true := by simpa using he
              by_cases hbar : x2 = 2 ∨ m = 2
              · have hb1 : barsB (x1, x2) h' m = true := by
                  simp only [barsB]
                  rcases hbar with q | q <;> simp [he, q]
                have hnu : ∀ nq, ∃ v0 W5, (Instr.lookup 58 (.map (some mm)) (.int .i64 x1) false).run Tryd.prog (W2.drewN nq) = .ok (.int .i64 v0) (W2.drewN nq) ∧ (Instr.mapUpdate 58 (.map (some mm)) (.int .i64 x1) (.int .i64 (wrap64 (v0 + 1)))).run Tryd.prog (W2.drewN nq) = .ok () W5 ∧ Only [mm] W2 W5 ∧ MetAt W5 mm (fun a => a = x1 ∨ S' a) := by
                  intro nq
                  obtain ⟨om, ks, hmb, hmi, hmk2⟩ := HME2.out
                  obtain ⟨v0, lkm⟩ := num_look (P := Tryd.prog) (w := W2.drewN nq) Tryd.underlying58 Tryd.underlying3 Tryd.zInt hmb hmi x1
                  obtain ⟨W5, o5, hup, hm5, ht5⟩ := mapG_upd (P := Tryd.prog) (w := W2.drewN nq) intKey Tryd.underlying58 Tryd.underlying3 hmb hmi x1 (wrap64 (v0 + 1))
                  refine ⟨v0, W5, lkm, hup, (Only.drewN [mm] W2 nq).trans ht5.2 (Within.refl _ _), o5, _, ht5.1, hm5, fun a => ?_⟩
                  rw [upd_keys, hmk2]
                have HNU := Lib.hid hnu
                have HRR := Lib.hid (fun W5 (h1 : Only [mm] W2 W5) (h2 : MetAt W5 mm (fun a => a = x1 ∨ S' a)) => HREL.out _ W5 h1 h2 (fun a => by rw [hb1]; simp [or_comm]))
                clear hnu
                rcases hx2 with rfl | rfl <;> rcases hmt with hmt | hmt
                · omega
                all_goals
                  subst hmt
                  go_wp2_with (at_next; refine wpList_next_run _ rfl _ rfl _ rfl hnx ?_)
                  go_quiet (fail)
                  obtain ⟨v0, W5, lk5, hup5, ho5, hme5⟩ := HNU.out nq
                  have HR5 := Lib.hid (HRR.out W5 ho5 hme5)
                  clear ho5 hme5
                  go_wp2_with fail
                  go_roundg (todo'.length)
                  case measure => have := HLT2.out; omega
                  case rel => exact HR5.out
              · have hx1 : x2 = 1 := by omega
                have hm1 : m = 1 := by omega
                subst hx1 hm1
                have hb0 : barsB (x1, 1) h' 1 = false := by simp [barsB]
                have HRR := Lib.hid (fun nq => HREL.out S' (W2.drewN nq) (Only.drewN _ _ _) HME2.out (fun a => by rw [hb0]; simp))
                clear hb0
                go_wp2_with (at_next; refine wpList_next_run _ rfl _ rfl _ rfl hnx ?_)
                go_quiet (fail)
                go_wp2_with fail
                go_roundg (todo'.length)
                case measure => have := HLT2.out; omega
                case rel => exact HRR.out nq

end Go.Proofs.YtipfjjcokajjjaaDoor
