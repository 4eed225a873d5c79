/-
  What is proved here: (*lock.Table).Take.
  No condition: each lemma names its own.
-/
import Derived.Test.YtipfjjcokajjjaaDoorLkT
import Derived.Test.YtipfjjcokajjjaaDoorSepOrd
import Derived.Test.YtipfjjcokajjjaaDoorLast
import Derived.Deep.DeepCutAuto
import Derived.Deep.CutBlock
import Derived.WalkMore
set_option linter.unusedVariables false
set_option linter.unusedSimpArgs false
namespace Go.Proofs.YtipfjjcokajjjaaDoor
open Go.RowKit

theorem perm_up2 {α : Type} (a b c : α) (l : List α) : (a :: b :: c :: l).Perm (c :: a :: b :: l) := (List.Perm.cons _ (.swap _ _ _)).trans (.swap _ _ _)
theorem perm_up3 {α : Type} (a b c d : α) (l : List α) : (a :: b :: c :: d :: l).Perm (d :: a :: b :: c :: l) := (List.Perm.cons _ (perm_up2 b c d l)).trans (.swap _ _ _)

def tabObj (mT mW : Nat) : Obj := .cells #[.map (some mT), .map (some mW)] 56 (0, 0)
def queObj (r : Nat) (v : Value) : Obj := .cells #[.map (some r), v] 61 (0, 0)
def ptrObj (p : Nat) : Obj := .cells #[.pointer (some ⟨p, 0, none⟩)] 57 (0, 0)

/-- The table while one of its queues lies open. -/
def openL (p r : Nat) (v : Value) (has q : HM) (b mT mW : Nat) (nm : List (ByteArray × Nat)) (wl : List (Int × ByteArray)) (ta tb : TP) (l : List Res) : List Res :=
  blkRes p (queObj r v) :: mapRes mInt mInt has r :: winRes 65 2 v q.length (wCells q) :: blkRes b (tabObj mT mW) :: mapRes mStr mPtr nm mT :: mapRes mInt mStr wl mW :: (queuesOf ta ++ (queuesOf tb ++ l))

theorem names_same (ta tb : TP) (x x' : Th) (p : Nat) (h : x'.name = x.name) : namesOf (ta ++ (x', p) :: tb) = namesOf (ta ++ (x, p) :: tb) := by simp [namesOf, h]

theorem open_close {w W : World} {p r : Nat} {v : Value} {has q : HM} {b mT mW : Nat} {nm : List (ByteArray × Nat)} {wl : List (Int × ByteArray)} {ta tb : TP} {l : List Res} (n : ByteArray) (h : Sep w W (openL p r v has q b mT mW nm wl ta tb l))
    (hn : nm.Perm (namesOf (ta ++ (⟨n, has, q⟩, p) :: tb))) (hw : wl.Perm (waitsL (ta.map Prod.fst ++ ⟨n, has, q⟩ :: tb.map Prod.fst))) : Sep w W (tabRes b (ta.map Prod.fst ++ ⟨n, has, q⟩ :: tb.map Prod.fst) :: l) := by
  have h1 : Sep w W (queueRes p has q :: blkRes b (tabObj mT mW) :: mapRes mStr mPtr nm mT :: mapRes mInt mStr wl mW :: (queuesOf ta ++ (queuesOf tb ++ l))) := Sep.close (ps := queueParts p has q) (Q := fun _ => True) (r, v) h trivial
  have h2 := (h1.up2.mapPerm hn).dn2
  have h3 := (h2.up3.mapPerm hw).dn3
  have h4 : Sep w W (blkRes b (tabObj mT mW) :: mapRes mStr mPtr (namesOf (ta ++ (⟨n, has, q⟩, p) :: tb)) mT :: mapRes mInt mStr (waitsL (ta.map Prod.fst ++ ⟨n, has, q⟩ :: tb.map Prod.fst)) mW :: queuesOf (ta ++ (⟨n, has, q⟩, p) :: tb) ++ l) := Sep.queueDown (x := ⟨n, has, q⟩) h3
  refine Sep.close (ps := tabParts b _) (Q := fun x => x.2.map Prod.fst = _) ((mT, mW), ta ++ (⟨n, has, q⟩, p) :: tb) ?_ (by simp)
  exact h4

theorem open_open {w W : World} {b mT mW : Nat} {t : Tab} {ta tb : TP} {x : Th} {p : Nat} {l : List Res} (h : Sep w W (tabParts b t ((mT, mW), ta ++ (x, p) :: tb) ++ l)) :
    ∃ r v, Sep w W (openL p r v x.has x.q b mT mW (namesOf (ta ++ (x, p) :: tb)) (waitsL t) ta tb l) := by
  have h1 : Sep w W (blkRes b (tabObj mT mW) :: mapRes mStr mPtr (namesOf (ta ++ (x, p) :: tb)) mT :: mapRes mInt mStr (waitsL t) mW :: queuesOf (ta ++ (x, p) :: tb) ++ l) := h
  obtain ⟨⟨r, v⟩, h2, _⟩ := h1.queueUp.open
  exact ⟨r, v, h2⟩

set_option maxRecDepth 100000 in
theorem take_nil (h : Int) (n : ByteArray) (m : Int) (W : World) : Calls Tryd.prog 13 #[.pointer none, .int .i64 h, .string n, .int .i64 m] W fun e W' => e = .returned (.int .i64 1) ∧ W = W' := by
  go_enter Tryd.func13, Tryd.ntmps13
  go_wp2_with fail
  go_ret
  exact ⟨rfl, rfl⟩

set_option maxRecDepth 100000 in
theorem take_bad (b : Nat) (h : Int) (n : ByteArray) (m : Int) (W : World) (hbad : h < 1 ∨ 1000 < h ∨ 64 < n.size ∨ m < 1 ∨ 2 < m) :
    Calls Tryd.prog 13 #[.pointer (some ⟨b, 0, none⟩), .int .i64 h, .string n, .int .i64 m] W fun e W' => e = .returned (.int .i64 1) ∧ W = W' := by
  by_cases a1 : h < 1
  · clear hbad
    go_enter Tryd.func13, Tryd.ntmps13
    go_wp2_with fail
    go_ret
    exact ⟨rfl, rfl⟩
  by_cases a2 : 1000 < h
  · clear hbad
    go_enter Tryd.func13, Tryd.ntmps13
    go_wp2_with fail
    go_ret
    exact ⟨rfl, rfl⟩
  by_cases a3 : 64 < n.size
  · have a3' : (64 : Int) < (n.size : Int) := by omega
    clear hbad
    go_enter Tryd.func13, Tryd.ntmps13
    go_wp2_with fail
    go_ret
    exact ⟨rfl, rfl⟩
  have a3' : ¬ (64 : Int) < (n.size : Int) := by omega
  by_cases a4 : m < 1
  · clear hbad
    go_enter Tryd.func13, Tryd.ntmps13
    go_wp2_with fail
    go_ret
    exact ⟨rfl, rfl⟩
  have a5 : 2 < m := by omega
  clear hbad
  go_enter Tryd.func13, Tryd.ntmps13
  go_wp2_with fail
  go_ret
  exact ⟨rfl, rfl⟩

set_option maxRecDepth 100000 in
set_option maxHeartbeats 1000000 in
/-- Take, where it changes nothing. -/
theorem take_stays {w W : World} {l : List Res} {b : Nat} {t : Tab} (hg : Good t) (h : Int) (n : ByteArray) (want : Int) (ha : ¬ (h < 1 ∨ 1000 < h ∨ 64 < n.size ∨ want < 1 ∨ 2 < want)) (hs : Sep w W (tabRes b t :: l))
    (hst : (waitsM t h).isSome = true ∨ want ≤ modeM t h n ∨ (getT t n = none ∧ t.length = 256)) :
    Calls Tryd.prog 13 #[.pointer (some ⟨b, 0, none⟩), .int .i64 h, .string n, .int .i64 want] W fun e W' => e = .returned (.int .i64 (takeM t h n want).1) ∧ Sep w W' (tabRes b (takeM t h n want).2 :: l) := by
  obtain ⟨⟨⟨mT, mW⟩, tp⟩, hs1, ht⟩ := hs.open
  simp only [tabParts, List.cons_append] at hs1
  have HS := Lib.hid hs
  have a1 : ¬ h < 1 := by omega
  have a2 : ¬ 1000 < h := by omega
  have a3 : ¬ (64 : Int) < (n.size : Int) := by omega
  have a4 : ¬ want < 1 := by omega
  have a5 : ¬ 2 < want := by omega
  have bb := hs1.blk
  have c0 := cell_of_block bb 0 (v := .map (some mT)) rfl
  obtain ⟨oT, bT, hT⟩ := hs1.up1.map
  obtain ⟨oW, bW, hW⟩ := hs1.up2.map
  cases hwt : waitsM t h with
  | some nw =>
    have hv : takeM t h n want = (161, t) := by unfold takeM; rw [if_neg ha, hwt]; rfl
    rw [hv]
    obtain ⟨qq, lk⟩ : ∃ qq, (Instr.lookup 53 (.map (some mT)) (.string n) false).run Tryd.prog W = .ok (.pointer qq) W := by
      cases e : getT t n with
      | none => exact ⟨_, mapG_miss strKey Tryd.underlying53 Tryd.underlying9 bT hT (names_miss ht (getT_none hg e).1) (Tryd.zQp W) false⟩
      | some x =>
        obtain ⟨hxn, hxt, hsp⟩ := getT_some hg e
        obtain ⟨ta, p, tb, rfl, hta, htb⟩ := names_hit ht hsp
        exact ⟨_, mapG_look strKey Tryd.underlying53 Tryd.underlying9 bT hT (a := n) (v := p) (by rw [← hxn]; exact names_mem) false⟩
    have hb3 := hs1.forget (.cells #[.pointer qq] 57)
    have g1 := cell_of_block hb3.blk 1 (v := .map (some mW)) rfl
    obtain ⟨oW3, bW3, hW3⟩ := hb3.up2.map
    have lkW3 := waits_look Tryd.underlying54 Tryd.underlying3 Tryd.zStr bW3 hW3 hg h
    rw [hwt] at lkW3
    simp only [Option.getD_some, Option.isSome_some] at lkW3
    have HF3 := Lib.hid (hs.forget (.cells #[.pointer qq] 57))
    clear hs hs1 hb3 bb bT hT bW hW bW3 hW3 ht hst hv
    go_enter Tryd.func13, Tryd.ntmps13
    go_wp2_with fail
    go_ret
    exact ⟨rfl, HF3.out⟩
  | none =>
    cases e : getT t n with
    | none =>
      have lk := mapG_miss strKey Tryd.underlying53 Tryd.underlying9 bT hT (names_miss ht (getT_none hg e).1) (Tryd.zQp W) false
      have hb2 := hs1.forget (.cells #[.pointer none] 57)
      have d1 := cell_of_block hb2.blk 1 (v := .map (some mW)) rfl
      have d0 := cell_of_block hb2.blk 0 (v := .map (some mT)) rfl
      have e0 := cell_of_block (heap_alloc_self (w := W) (o := .cells #[.pointer none] 57)) 0 (v := .pointer none) rfl
      obtain ⟨oW2, bW2, hW2⟩ := hb2.up2.map
      have lkW := waits_look Tryd.underlying54 Tryd.underlying3 Tryd.zStr bW2 hW2 hg h
      have HF := Lib.hid (hs.forget (.cells #[.pointer none] 57))
      rw [hwt] at lkW
      simp only [Option.getD_none, Option.isSome_none] at lkW
      have hm0 : modeM t h n = 0 := by unfold modeM; rw [e]
      have hlen : t.length = 256 := by
        rcases hst with q | q | q
        · rw [hwt] at q; cases q
        · omega
        · exact q.2
      have hv : takeM t h n want = (3, t) := by
        unfold takeM
        rw [if_neg ha, hwt, if_neg (by simp), if_neg (by omega), if_pos ⟨e, hlen⟩]
      rw [hv]
      obtain ⟨oT2, bT2, hT2⟩ := hb2.up1.map
      have hln := mapG_len Tryd.underlying53 bT2 hT2
      have hnl : (namesOf tp).length = 256 := by rw [← hlen, ← ht]; simp [namesOf]
      rw [hnl] at hln
      clear hs hs1 hb2 bb bT hT bW hW bW2 hW2 ht hst hv bT2 hT2 hnl
      go_enter Tryd.func13, Tryd.ntmps13
      go_wp2_with fail
      go_ret
      exact ⟨rfl, HF.out⟩
    | some x =>
      obtain ⟨hxn, hxt, hsp⟩ := getT_some hg e
      have hm0 : modeM t h n = modeL x.has h := by unfold modeM; rw [e]
      have hle : want ≤ modeL x.has h := by
        rcases hst with q | q | q
        · rw [hwt] at q; cases q
        · omega
        · rw [e] at q; cases q.1
      have hv : takeM t h n want = (0, t) := by
        unfold takeM
        rw [if_neg ha, hwt, if_neg (by simp), if_pos (by rw [hm0]; exact hle)]
      rw [hv]
      obtain ⟨ta, p, tb, rfl, hta, htb⟩ := names_hit ht hsp
      have lk := mapG_look strKey Tryd.underlying53 Tryd.underlying9 bT hT (a := n) (v := p) (by rw [← hxn]; exact names_mem) false
      have hb4 := hs1.forget (.cells #[.pointer (some ⟨p, 0, none⟩)] 57)
      have k1 := cell_of_block hb4.blk 1 (v := .map (some mW)) rfl
      have k0 := cell_of_block (heap_alloc_self (w := W) (o := .cells #[.pointer (some ⟨p, 0, none⟩)] 57)) 0 (v := .pointer (some ⟨p, 0, none⟩)) rfl
      obtain ⟨oW3, bW3, hW3⟩ := hb4.up2.map
      have lkW3 := waits_look Tryd.underlying54 Tryd.underlying3 Tryd.zStr bW3 hW3 hg h
      rw [hwt] at lkW3
      simp only [Option.getD_none, Option.isSome_none] at lkW3
      obtain ⟨⟨r, v⟩, hq, _⟩ := hb4.queueUp.open
      simp only [queueParts, List.cons_append, List.nil_append] at hq
      have p0 := cell_of_block hq.blk 0 (v := .map (some r)) rfl
      obtain ⟨oH, bH, hH⟩ := hq.up1.map
      have lh := modes_look Tryd.underlying58 Tryd.underlying3 Tryd.zInt bH hH (hg.each x hxt).has h
      have HF4 := Lib.hid (hs.forget (.cells #[.pointer (some ⟨p, 0, none⟩)] 57))
      clear hs hs1 hb4 hq bb bT hT bW hW bW3 hW3 bH hH ht hst hv hm0 hta htb hsp
      go_enter Tryd.func13, Tryd.ntmps13
      go_wp2_with fail
      go_ret
      exact ⟨rfl, HF4.out⟩

theorem nodup_len : ∀ (m : Nat) (l : List Nat), l.Nodup → (∀ x ∈ l, x < m) → l.length ≤ m
  | 0, l, _, hb => by
    cases l with
    | nil => exact Nat.le_refl _
    | cons x l => have := hb x (by simp); omega
  | m + 1, l, hn, hb => by
    by_cases hm : m ∈ l
    · have h1 := nodup_len m (l.erase m) (hn.erase m) (fun x hx => by
        have h2 := (hn.mem_erase_iff).1 hx
        have := hb x h2.2
        have := h2.1
        omega)
      rw [List.length_erase_of_mem hm] at h1
      omega
    · have := nodup_len m l hn (fun x hx => by
        have := hb x hx
        have : x ≠ m := fun e => hm (e ▸ hx)
        omega)
      omega
theorem modes_len {q : HM} (h : Modes q) : q.length ≤ 100000 := by
  have h1 : (q.map (fun x => x.1.toNat)).Nodup := by
    have h0 := h.1
    rw [show q.map (fun x => x.1.toNat) = (q.map Prod.fst).map Int.toNat from by rw [List.map_map]; rfl]
    refine List.pairwise_map.2 (List.Pairwise.imp_of_mem ?_ h0)
    intro a b ha hb hne e
    obtain ⟨x, hx, rfl⟩ := List.mem_map.1 ha
    obtain ⟨y, hy, rfl⟩ := List.mem_map.1 hb
    have := h.2 x hx
    have := h.2 y hy
    omega
  have h2 := nodup_len 1001 _ h1 (fun a ha => by
    obtain ⟨x, hx, rfl⟩ := List.mem_map.1 ha
    have := h.2 x hx
    omega)
  rw [List.length_map] at h2
  omega

/-- How the first who does not have the thing is found. -/
theorem idx_up {x : Th} (hh : Modes x.has) (h4 : ∀ y ∈ x.q, modeL x.has y.1 ≠ 2) : idxN x.q (fun y => decide (modeL x.has y.1 ≠ 1)) = upAt x := by
  unfold idxN upAt
  have : ∀ (l : HM), (∀ y ∈ l, modeL x.has y.1 ≠ 2) → l.takeWhile (fun y => !decide (modeL x.has y.1 ≠ 1)) = l.takeWhile (fun y => decide (0 < modeL x.has y.1)) := by
    intro l hl
    induction l with
    | nil => rfl
    | cons y l ih =>
      have hy := hl y (by simp)
      have e : (!decide (modeL x.has y.1 ≠ 1)) = decide (0 < modeL x.has y.1) := by
        rw [Bool.eq_iff_iff]
        rcases modeL_cases hh y.1 with ⟨h3, _⟩ | ⟨h3, _⟩
        · simp [h3]
        · rcases h3 with h3 | h3
          · simp [h3]
          · exact absurd h3 hy
      rw [List.takeWhile_cons, List.takeWhile_cons, e, ih (fun z hz => hl z (by simp [hz]))]
  rw [this x.q h4]

theorem filter_no_waits {t : Tab} {h : Int} (hn : ∀ y ∈ waitsL t, y.1 ≠ h) : (waitsL t).filter (fun x => decide (x.1 ≠ h)) = waitsL t := filter_no hn

theorem take_ends {w W W' : World} {l : List Res} {b p r mT mW : Nat} {v3 : Value} {t : Tab} {ta tb : TP} {x : Th} {h : Int} {n : ByteArray} {want : Int} {o5 : Obj} {oq : Obj} {q0 : Nat} (hg : Good t) (h1 : x.name = n) (hta : ta.map Prod.fst = lo t n) (htb : tb.map Prod.fst = hi t n)
    (h8 : (waitsL t).Perm (x.q.map (fun y => (y.1, x.name)) ++ (waitsL (lo t n) ++ waitsL (hi t n)))) (hnw : ∀ y ∈ waitsL t, y.1 ≠ h) (hgt : gets x h want = false)
    (hs : Sep w W (blkRes p (.cells #[.map (some r), v3] 61 (0, 0)) :: winRes 65 2 v3 (insL x.q (atQ x h) (h, want)).length (wCells (insL x.q (atQ x h) (h, want))) :: blkRes q0 oq :: blkRes b (tabObj mT mW) :: mapRes mInt mInt x.has r :: mapRes mStr mPtr (namesOf (ta ++ (x, p) :: tb)) mT :: mapRes mInt mStr (waitsL t) mW :: (queuesOf ta ++ (queuesOf tb ++ l))))
    (ht : Turned W W' mW o5) (hm : MapIs mInt mStr (updL (waitsL t) h n) o5) : Sep w W' (tabRes b (lo t n ++ takeT x h want :: hi t n) :: l) := by
  have hx' : takeT x h want = ⟨n, x.has, insL x.q (atQ x h) (h, want)⟩ := by
    unfold takeT
    rw [if_neg (by rw [hgt]; simp), ← h1]
  rw [hx', ← hta, ← htb]
  have s1 : Sep w W (mapRes mInt mStr (waitsL t) mW :: (blkRes p (queObj r v3) :: mapRes mInt mInt x.has r :: winRes 65 2 v3 (insL x.q (atQ x h) (h, want)).length (wCells (insL x.q (atQ x h) (h, want))) :: blkRes b (tabObj mT mW) :: mapRes mStr mPtr (namesOf (ta ++ (x, p) :: tb)) mT :: (queuesOf ta ++ (queuesOf tb ++ (blkRes q0 oq :: l))))) :=
    hs.reorder (by unfold queObj; intro x; simp only [List.count_append, List.count_cons, List.count_nil, List.cons_append, List.nil_append, List.append_assoc]; omega)
  have s2 := s1.mapTurn ht hm
  have s3 : Sep w W' (openL p r v3 x.has (insL x.q (atQ x h) (h, want)) b mT mW (namesOf (ta ++ (x, p) :: tb)) (updL (waitsL t) h n) ta tb (blkRes q0 oq :: l)) :=
    s2.reorder (by unfold openL; intro x; simp only [List.count_append, List.count_cons, List.count_nil, List.cons_append, List.nil_append, List.append_assoc]; omega)
  have s4 := open_close n s3 (List.Perm.of_eq (names_same ta tb ⟨n, x.has, insL x.q (atQ x h) (h, want)⟩ x p h1)) (by
    rw [hta, htb]
    unfold updL
    rw [filter_no_waits hnw, waitsL_app, waitsL_cons]
    have hp2 : ((insL x.q (atQ x h) (h, want)).map (fun y => (y.1, n))).Perm ((h, n) :: x.q.map (fun y => (y.1, n))) := (insL_perm _ _ _).map _
    rw [h1] at h8
    refine (h8.append_right _).trans ?_
    refine List.perm_append_comm.trans ?_
    have e1 : ([(h, n)] ++ (x.q.map (fun y => (y.1, n)) ++ (waitsL (lo t n) ++ waitsL (hi t n)))).Perm ((insL x.q (atQ x h) (h, want)).map (fun y => (y.1, n)) ++ (waitsL (lo t n) ++ waitsL (hi t n))) := by
      rw [← List.append_assoc]
      exact (hp2.symm).append_right _
    refine e1.trans ?_
    rw [← List.append_assoc, ← List.append_assoc]
    exact List.Perm.append_right _ List.perm_append_comm)
  exact (s4.up1).tail

theorem ins_drew {w W : World} {l : List Res} {v : Value} {q : HM} (i : Nat) (y : Int × Int) (hi : i ≤ q.length) (hn : q.length ≤ 100000) (hs : Sep w W (winRes 65 2 v q.length (wCells q) :: l)) :
    Calls Tryd.prog 31 #[v, .int .i64 i, .slice (some ⟨W.heap.size, 0, none⟩) 1 1] (W.alloc (.cells #[.int .i64 y.1, .int .i64 y.2] 65)).drew fun r W' =>
      ∃ p' c', r = .returned (.slice p' (insL q i y).length c') ∧ Sep w W' (winRes 65 2 (.slice p' (insL q i y).length c') (insL q i y).length (wCells (insL q i y)) :: l) := by
  refine (ins_any (W := W.drew) i y hi hn hs.drew).mono ?_
  rintro r W' ⟨v', rfl, h⟩
  rcases h.win with ⟨g1, g2, _⟩ | ⟨g, o, cap, cur, P0, S0, g1, _⟩
  · exact ⟨none, 0, by rw [g1, g2], by rw [g2]; rw [g1, g2] at h; exact h⟩
  · subst g1; exact ⟨_, _, rfl, h⟩

theorem atQ_le (x : Th) (h : Int) : atQ x h ≤ x.q.length := by
  unfold atQ upAt
  split
  · exact (List.takeWhile_sublist _).length_le
  · exact Nat.le_refl _

theorem take_gets {w W W' : World} {l : List Res} {b p r mT mW : Nat} {v3 : Value} {t : Tab} {ta tb : TP} {x : Th} {h : Int} {n : ByteArray} {want : Int} {o5 : Obj} {oq : Obj} {q0 : Nat} (hg : Good t) (h1 : x.name = n) (hta : ta.map Prod.fst = lo t n) (htb : tb.map Prod.fst = hi t n)
    (h8 : (waitsL t).Perm (x.q.map (fun y => (y.1, x.name)) ++ (waitsL (lo t n) ++ waitsL (hi t n)))) (hgt : gets x h want = true)
    (hs : Sep w W (blkRes q0 oq :: openL p r v3 x.has x.q b mT mW (namesOf (ta ++ (x, p) :: tb)) (waitsL t) ta tb l))
    (ht : Turned W W' r o5) (hm : MapIs mInt mInt (updL x.has h want) o5) : Sep w W' (tabRes b (lo t n ++ takeT x h want :: hi t n) :: l) := by
  have hx' : takeT x h want = ⟨n, putL x.has h want, x.q⟩ := by
    unfold takeT
    rw [if_pos hgt, ← h1]
  rw [hx', ← hta, ← htb]
  have s1 : Sep w W (mapRes mInt mInt x.has r :: (blkRes p (queObj r v3) :: winRes 65 2 v3 x.q.length (wCells x.q) :: blkRes b (tabObj mT mW) :: mapRes mStr mPtr (namesOf (ta ++ (x, p) :: tb)) mT :: mapRes mInt mStr (waitsL t) mW :: (queuesOf ta ++ (queuesOf tb ++ (blkRes q0 oq :: l))))) :=
    hs.reorder (by unfold openL; intro x; simp only [List.count_append, List.count_cons, List.count_nil, List.cons_append, List.nil_append, List.append_assoc]; omega)
  have s2 := s1.mapTurn ht hm
  have s3 : Sep w W' (openL p r v3 (putL x.has h want) x.q b mT mW (namesOf (ta ++ (x, p) :: tb)) (waitsL t) ta tb (blkRes q0 oq :: l)) :=
    s2.reorder (by unfold openL putL outL updL; intro x; simp only [List.count_append, List.count_cons, List.count_nil, List.cons_append, List.nil_append, List.append_assoc]; omega)
  have s4 := open_close n s3 (List.Perm.of_eq (names_same ta tb ⟨n, putL x.has h want, x.q⟩ x p h1)) (by
    rw [hta, htb, waitsL_app, waitsL_cons]
    rw [h1] at h8
    refine h8.trans ?_
    rw [← List.append_assoc, ← List.append_assoc]
    exact List.Perm.append_right _ List.perm_append_comm)
  exact (s4.up1).tail

/-- Where the queue of a thing lies, as the look-up tells. -/
theorem thing_look {w W : World} {b mT mW : Nat} {tp : TP} {t : Tab} {l : List Res} (hg : Good t) (ht : tp.map Prod.fst = t) (n : ByteArray) (hs : Sep w W (tabParts b t ((mT, mW), tp) ++ l)) :
    ∃ qq, (Instr.lookup 53 (.map (some mT)) (.string n) false).run Tryd.prog W = .ok (.pointer qq) W ∧
      ((getT t n = none ∧ qq = none) ∨ ∃ x ta p tb, getT t n = some x ∧ tp = ta ++ (x, p) :: tb ∧ ta.map Prod.fst = lo t n ∧ tb.map Prod.fst = hi t n ∧ qq = some ⟨p, 0, none⟩) := by
  simp only [tabParts, List.cons_append] at hs
  obtain ⟨oT, bT, hT⟩ := hs.up1.map
  cases e : getT t n with
  | none => exact ⟨_, mapG_miss strKey Tryd.underlying53 Tryd.underlying9 bT hT (names_miss ht (getT_none hg e).1) (Tryd.zQp W) false, .inl ⟨rfl, rfl⟩⟩
  | some x =>
    obtain ⟨hxn, hxt, hsp⟩ := getT_some hg e
    obtain ⟨ta, p, tb, rfl, hta, htb⟩ := names_hit ht hsp
    exact ⟨_, mapG_look strKey Tryd.underlying53 Tryd.underlying9 bT hT (a := n) (v := p) (by rw [← hxn]; exact names_mem) false, .inr ⟨x, ta, p, tb, rfl, rfl, hta, htb, rfl⟩⟩


end Go.Proofs.YtipfjjcokajjjaaDoor
