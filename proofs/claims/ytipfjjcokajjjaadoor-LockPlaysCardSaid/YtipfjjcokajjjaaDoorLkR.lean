/-
  What is proved here: what holds while (*lock.Table).Release goes from thing to thing.
  No condition: each lemma names its own.
-/
import Derived.Test.YtipfjjcokajjjaaDoorLkU
set_option linter.unusedVariables false
set_option linter.unusedSimpArgs false
namespace Go.Proofs.YtipfjjcokajjjaaDoor
open Go.RowKit

theorem relT_eq {x : Th} (hx : GoodT x) (h : Int) : relT x h = ((grant (outL x.has h) (outL x.q h)).1, ⟨x.name, (grant (outL x.has h) (outL x.q h)).2.1, (grant (outL x.has h) (outL x.q h)).2.2⟩) := by
  unfold relT
  split
  · rfl
  · rename_i hm
    have h1 : modeL x.has h = 0 := by
      rcases modeL_cases hx.has h with ⟨a, _⟩ | ⟨a, _⟩
      · exact a
      · exfalso; apply hm; unfold mineB; simp; left; omega
    have h2 : modeL x.q h = 0 := by
      rcases modeL_cases hx.q h with ⟨a, _⟩ | ⟨a, _⟩
      · exact a
      · exfalso; apply hm; unfold mineB; simp; right; omega
    have e1 : outL x.has h = x.has := out_self (fun y hy e => by have := (modeL_pos hx.has).2 ⟨y, hy, e⟩; omega)
    have e2 : outL x.q h = x.q := out_self (fun y hy e => by have := (modeL_pos hx.q).2 ⟨y, hy, e⟩; omega)
    rw [e1, e2]
    have e3 : grant x.has x.q = ([], x.has, x.q) := by
      cases hq : x.q with
      | nil => rfl
      | cons y z => unfold grant; rw [hx.bar y z hq]; rfl
    rw [e3]

theorem modes_len1 {q : HM} (h : Modes q) : q.length ≤ 1001 := by
  have h1 : (q.map (fun x => x.1.toNat)).Nodup := by
    have h0 := h.1
    rw [show q.map (fun x => x.1.toNat) = (q.map Prod.fst).map Int.toNat from by rw [List.map_map]; rfl]
    refine List.pairwise_map.2 (List.Pairwise.imp_of_mem ?_ h0)
    intro a b ha hb hne e
    obtain ⟨x, hx, rfl⟩ := List.mem_map.1 ha
    obtain ⟨y, hy, rfl⟩ := List.mem_map.1 hb
    have := h.2 x hx
    have := h.2 y hy
    omega
  have h2 := nodup_len 1001 _ h1 (fun a ha => by
    obtain ⟨x, hx, rfl⟩ := List.mem_map.1 ha
    have := h.2 x hx
    omega)
  rwa [List.length_map] at h2

/-- The map of who waits, while h is released. -/
def WOk (t0 tab : Tab) (h : Int) (wl : List (Int × ByteArray)) : Prop := ∀ a n, (a, n) ∈ wl ↔ (a = h ∧ (h, n) ∈ waitsL t0) ∨ (a ≠ h ∧ (a, n) ∈ waitsL tab)

theorem wok_start (t : Tab) (h : Int) : WOk t t h (waitsL t) := by
  intro a n
  by_cases e : a = h
  · subst e; simp
  · simp [e]
theorem wok_same {t0 tab tab' : Tab} {h : Int} {wl : List (Int × ByteArray)} (hw : WOk t0 tab h wl) (he : ∀ a n, a ≠ h → ((a, n) ∈ waitsL tab ↔ (a, n) ∈ waitsL tab')) : WOk t0 tab' h wl := by
  intro a n
  rw [hw a n]
  by_cases e : a = h
  · simp [e]
  · simp [e, he a n e]

/-- The inner loop: what holds. -/
structure PInv (t dn rest : Tab) (h : Int) (n : ByteArray) (OUT : List Int) (FIN : HM × HM) (has q : HM) (out : List Int) (wl : List (Int × ByteArray)) (i : Nat) : Prop where
  outE : out ++ (grant has q).1 = OUT
  finE : (grant has q).2 = FIN
  mh : Modes has
  mq : Modes q
  no : ∀ y ∈ q, y.1 ≠ h
  ok : WOk t (dn ++ ⟨n, has, q⟩ :: rest) h wl
  nd : ((waitsL (dn ++ ⟨n, has, q⟩ :: rest)).map Prod.fst).Nodup
  len : out.length + q.length ≤ 1001 * (i + 1)

theorem mem_mid {dn rest : Tab} {x : Th} {a : Int} {m : ByteArray} : (a, m) ∈ waitsL (dn ++ x :: rest) ↔ (a, m) ∈ waitsL dn ∨ (m = x.name ∧ ∃ y ∈ x.q, y.1 = a) ∨ (a, m) ∈ waitsL rest := by
  rw [waitsL_app, waitsL_cons, List.mem_append, List.mem_append, List.mem_map]
  refine or_congr Iff.rfl (or_congr ?_ Iff.rfl)
  constructor
  · rintro ⟨y, hy, e⟩
    simp only [Prod.mk.injEq] at e
    exact ⟨e.2.symm, y, hy, e.1⟩
  · rintro ⟨rfl, y, hy, rfl⟩
    exact ⟨y, hy, rfl⟩

theorem pinv_step {t dn rest : Tab} {h : Int} {n : ByteArray} {OUT : List Int} {FIN : HM × HM} {has z : HM} {y : Int × Int} {out : List Int} {wl : List (Int × ByteArray)} {i : Nat} (hp : PInv t dn rest h n OUT FIN has (y :: z) out wl i) (hf : freeL has y.1 y.2 = true) :
    PInv t dn rest h n OUT FIN (putL has y.1 y.2) z (out ++ [y.1]) (delL wl y.1) i := by
  obtain ⟨h1, h2, h3, h4, h5, h6, h7, h8⟩ := hp
  have hy := h4.2 y (by simp)
  have hyh := h5 y (by simp)
  have hg : grant has (y :: z) = (y.1 :: (grant (putL has y.1 y.2) z).1, (grant (putL has y.1 y.2) z).2) := by conv => lhs; unfold grant; rw [if_pos hf]
  have hz : Modes z := ⟨(List.nodup_cons.1 (by simpa using h4.1 : (y.1 :: z.map Prod.fst).Nodup)).2, fun x hx => h4.2 x (by simp [hx])⟩
  have hsub : (waitsL (dn ++ ⟨n, putL has y.1 y.2, z⟩ :: rest)).Sublist (waitsL (dn ++ ⟨n, has, y :: z⟩ :: rest)) := by
    rw [waitsL_app, waitsL_app, waitsL_cons, waitsL_cons]
    refine (List.Sublist.refl _).append (List.Sublist.append ?_ (List.Sublist.refl _))
    exact List.Sublist.cons _ (List.Sublist.refl _)
  refine ⟨by rw [← h1, hg]; simp, by rw [← h2, hg], h3.put ⟨hy.1, hy.2.1⟩ hy.2.2, hz, fun x hx => h5 x (by simp [hx]), ?_, (hsub.map _).nodup h7, by simp at h8 ⊢; omega⟩
  intro a m
  have hmem : (a, m) ∈ delL wl y.1 ↔ (a, m) ∈ wl ∧ a ≠ y.1 := by simp [delL]
  rw [hmem, h6 a m]
  have hper : (waitsL (dn ++ ⟨n, has, y :: z⟩ :: rest)).Perm ((y.1, n) :: waitsL (dn ++ ⟨n, putL has y.1 y.2, z⟩ :: rest)) := by
    rw [waitsL_app, waitsL_app, waitsL_cons, waitsL_cons]
    exact List.perm_middle
  have hnd2 := ((hper.map Prod.fst).nodup_iff).1 h7
  rw [List.map_cons, List.nodup_cons] at hnd2
  by_cases e : a = h
  · subst e
    simp [Ne.symm hyh]
  · simp only [e, false_and, false_or, ne_eq, not_false_eq_true, true_and]
    rw [hper.mem_iff, List.mem_cons]
    constructor
    · rintro ⟨q | q, hne⟩
      · simp only [Prod.mk.injEq] at q; exact absurd q.1 hne
      · exact q
    · intro q
      refine ⟨.inr q, fun e2 => ?_⟩
      subst e2
      exact hnd2.1 (List.mem_map.2 ⟨_, q, rfl⟩)

theorem pinv_end {t dn rest : Tab} {h : Int} {n : ByteArray} {OUT : List Int} {FIN : HM × HM} {has q : HM} {out : List Int} {wl : List (Int × ByteArray)} {i : Nat} (hp : PInv t dn rest h n OUT FIN has q out wl i) (hf : ∀ y z, q = y :: z → freeL has y.1 y.2 = false) :
    OUT = out ∧ FIN = (has, q) := by
  have hg : grant has q = ([], has, q) := by
    cases q with
    | nil => rfl
    | cons y z => unfold grant; rw [hf y z rfl]; rfl
  have h1 := hp.outE
  have h2 := hp.finE
  rw [hg] at h1 h2
  exact ⟨by simpa using h1.symm, h2.symm⟩

/-- The table while h is released. -/
def midParts (b : Nat) (wl : List (Int × ByteArray)) (x : (Nat × Nat) × TP) : List Res := blkRes b (tabObj x.1.1 x.1.2) :: mapRes mStr mPtr (namesOf x.2) x.1.1 :: mapRes mInt mStr wl x.1.2 :: queuesOf x.2
def midRes (b : Nat) (tab : Tab) (wl : List (Int × ByteArray)) : Res := exRes (midParts b wl) (fun x => x.2.map Prod.fst = tab)

theorem mid_of {w W : World} {b : Nat} {t : Tab} {l : List Res} (h : Sep w W (tabRes b t :: l)) : Sep w W (midRes b t (waitsL t) :: l) := by
  obtain ⟨x, h1, h2⟩ := h.open
  exact Sep.close (ps := midParts b (waitsL t)) (Q := fun x => x.2.map Prod.fst = t) x h1 h2
theorem mid_to {w W : World} {b : Nat} {t : Tab} {wl : List (Int × ByteArray)} {l : List Res} (h : Sep w W (midRes b t wl :: l)) (hp : wl.Perm (waitsL t)) : Sep w W (tabRes b t :: l) := by
  obtain ⟨x, h1, h2⟩ := h.open
  simp only [midParts, List.cons_append] at h1
  have h3 := (h1.up2.mapPerm hp).dn2
  exact Sep.close (ps := tabParts b t) (Q := fun x => x.2.map Prod.fst = t) x h3 h2

theorem mid_open {w W : World} {b : Nat} {A B : Tab} {x : Th} {wl : List (Int × ByteArray)} {l : List Res} (h : Sep w W (midRes b (A ++ x :: B) wl :: l)) :
    ∃ p r v mT mW ta tb, ta.map Prod.fst = A ∧ tb.map Prod.fst = B ∧ Sep w W (openL p r v x.has x.q b mT mW (namesOf (ta ++ (x, p) :: tb)) wl ta tb l) := by
  obtain ⟨⟨⟨mT, mW⟩, tp⟩, h1, h2⟩ := h.open
  have h2 : tp.map Prod.fst = A ++ x :: B := h2
  obtain ⟨ta, p, tb, rfl, hta, htb⟩ := names_hit h2 rfl
  have h3 : Sep w W (blkRes b (tabObj mT mW) :: mapRes mStr mPtr (namesOf (ta ++ (x, p) :: tb)) mT :: mapRes mInt mStr wl mW :: queuesOf (ta ++ (x, p) :: tb) ++ l) := h1
  obtain ⟨⟨r, v⟩, h4, _⟩ := h3.queueUp.open
  exact ⟨p, r, v, mT, mW, ta, tb, hta, htb, h4⟩

theorem mid_close {w W : World} {p r : Nat} {v : Value} {has q : HM} {b mT mW : Nat} {wl : List (Int × ByteArray)} {ta tb : TP} {l : List Res} {x : Th} (h : Sep w W (openL p r v has q b mT mW (namesOf (ta ++ (x, p) :: tb)) wl ta tb l)) :
    Sep w W (midRes b (ta.map Prod.fst ++ ⟨x.name, has, q⟩ :: tb.map Prod.fst) wl :: l) := by
  have h1 : Sep w W (queueRes p has q :: blkRes b (tabObj mT mW) :: mapRes mStr mPtr (namesOf (ta ++ (x, p) :: tb)) mT :: mapRes mInt mStr wl mW :: (queuesOf ta ++ (queuesOf tb ++ l))) := Sep.close (ps := queueParts p has q) (Q := fun _ => True) (r, v) h trivial
  have h4 : Sep w W (blkRes b (tabObj mT mW) :: mapRes mStr mPtr (namesOf (ta ++ (⟨x.name, has, q⟩, p) :: tb)) mT :: mapRes mInt mStr wl mW :: queuesOf (ta ++ (⟨x.name, has, q⟩, p) :: tb) ++ l) := by
    rw [names_same ta tb x ⟨x.name, has, q⟩ p rfl]
    exact Sep.queueDown (x := ⟨x.name, has, q⟩) h1
  refine Sep.close (ps := midParts b wl) (Q := fun x => x.2.map Prod.fst = _) ((mT, mW), ta ++ (⟨x.name, has, q⟩, p) :: tb) ?_ (by simp)
  exact h4

theorem mid_drop {w W W' : World} {p r : Nat} {v : Value} {has q : HM} {b mT mW : Nat} {wl : List (Int × ByteArray)} {ta tb : TP} {l : List Res} {x : Th} {o' : Obj} (h : Sep w W (openL p r v has q b mT mW (namesOf (ta ++ (x, p) :: tb)) wl ta tb l))
    (hn : ∀ y ∈ ta ++ tb, y.1.name ≠ x.name) (ht : Turned W W' mT o') (hm : MapIs mStr mPtr (delL (namesOf (ta ++ (x, p) :: tb)) x.name) o') :
    Sep w W' (midRes b (ta.map Prod.fst ++ tb.map Prod.fst) wl :: l) := by
  have hd : delL (namesOf (ta ++ (x, p) :: tb)) x.name = namesOf (ta ++ tb) := by
    unfold delL namesOf
    rw [List.map_append, List.map_cons, List.filter_append, List.filter_cons_of_neg (by simp), List.map_append]
    congr 1
    · exact List.filter_eq_self.2 fun y hy => by
        obtain ⟨z, hz, rfl⟩ := List.mem_map.1 hy
        simpa using hn z (List.mem_append_left _ hz)
    · exact List.filter_eq_self.2 fun y hy => by
        obtain ⟨z, hz, rfl⟩ := List.mem_map.1 hy
        simpa using hn z (List.mem_append_right _ hz)
  rw [hd] at hm
  have h1 : Sep w W (mapRes mStr mPtr (namesOf (ta ++ (x, p) :: tb)) mT :: (blkRes p (queObj r v) :: mapRes mInt mInt has r :: winRes 65 2 v q.length (wCells q) :: blkRes b (tabObj mT mW) :: mapRes mInt mStr wl mW :: (queuesOf ta ++ (queuesOf tb ++ l)))) :=
    h.reorder (by unfold openL; intro x; simp only [List.count_append, List.count_cons, List.count_nil, List.cons_append, List.nil_append, List.append_assoc]; omega)
  have h2 := h1.mapTurn ht hm
  have h3 : Sep w W' (blkRes p (queObj r v) :: mapRes mInt mInt has r :: winRes 65 2 v q.length (wCells q) :: (blkRes b (tabObj mT mW) :: mapRes mStr mPtr (namesOf (ta ++ tb)) mT :: mapRes mInt mStr wl mW :: queuesOf (ta ++ tb) ++ l)) :=
    h2.reorder (by
      have hqs : queuesOf (ta ++ tb) = queuesOf ta ++ queuesOf tb := by simp [queuesOf]
      rw [hqs]
      intro x; simp only [List.count_append, List.count_cons, List.count_nil, List.cons_append, List.nil_append, List.append_assoc]; omega)
  refine Sep.close (ps := midParts b wl) (Q := fun x => x.2.map Prod.fst = _) ((mT, mW), ta ++ tb) ?_ (by simp)
  exact h3.tail.tail.tail

/-- What the outer loop has done behind some things. -/
def doneL (pre : Tab) (h : Int) : Tab := (pre.map (fun x => (relT x h).2)).filter fullT
def outS (pre : Tab) (h : Int) : List Int := pre.flatMap (fun x => (relT x h).1)
theorem done_snoc (pre : Tab) (x : Th) (h : Int) : doneL (pre ++ [x]) h = doneL pre h ++ (if fullT (relT x h).2 then [(relT x h).2] else []) := by
  unfold doneL
  rw [List.map_append, List.filter_append]
  cases hf : fullT (relT x h).2 <;> simp [hf]
theorem out_snoc (pre : Tab) (x : Th) (h : Int) : outS (pre ++ [x]) h = outS pre h ++ (relT x h).1 := by simp [outS]
theorem out_len {t : Tab} (hg : ∀ x ∈ t, GoodT x) (h : Int) : (outS t h).length ≤ 1001 * t.length := by
  induction t with
  | nil => simp [outS]
  | cons x t ih =>
    have h1 := ih (fun y hy => hg y (by simp [hy]))
    have hx := hg x (by simp)
    have h2 : (relT x h).1.length ≤ 1001 := by
      rw [relT_eq hx]
      obtain ⟨p, e1, e2⟩ := grant_suffix (outL x.q h) (outL x.has h)
      simp only
      rw [e2, List.length_map]
      have := congrArg List.length e1
      rw [List.length_append] at this
      have h3 := modes_len1 (hx.q.out h)
      omega
    have e : outS (x :: t) h = (relT x h).1 ++ outS t h := rfl
    rw [e, List.length_append, List.length_cons]
    omega

theorem done_waits (pre : Tab) (h : Int) : (waitsL (doneL pre h)).Sublist (waitsL pre) := relM_waits pre h

/-- The inner loop begins. -/
theorem pinv_start {t pre rest : Tab} {x : Th} (hg : Good t) (ht : t = pre ++ x :: rest) (h : Int) {wl : List (Int × ByteArray)} (hw : WOk t (doneL pre h ++ x :: rest) h wl) :
    PInv t (doneL pre h) rest h x.name (outS (pre ++ [x]) h) ((relT x h).2.has, (relT x h).2.q) (outL x.has h) (outL x.q h) (outS pre h) wl pre.length := by
  have hx := hg.each x (by rw [ht]; simp)
  have he := relT_eq hx h
  refine ⟨?_, by rw [he], hx.has.out h, hx.q.out h, fun y hy => (out_mem.1 hy).2, ?_, ?_, ?_⟩
  · rw [out_snoc, he]
  · refine wok_same hw fun a n hne => ?_
    rw [mem_mid, mem_mid]
    refine or_congr Iff.rfl (or_congr (and_congr Iff.rfl ?_) Iff.rfl)
    constructor
    · rintro ⟨y, hy, rfl⟩; exact ⟨y, out_mem.2 ⟨hy, hne⟩, rfl⟩
    · rintro ⟨y, hy, rfl⟩; exact ⟨y, (out_mem.1 hy).1, rfl⟩
  · have hsub : (waitsL (doneL pre h ++ ⟨x.name, outL x.has h, outL x.q h⟩ :: rest)).Sublist (waitsL t) := by
      rw [ht, waitsL_app, waitsL_app, waitsL_cons, waitsL_cons]
      exact (done_waits pre h).append ((List.filter_sublist.map _).append (List.Sublist.refl _))
    exact (hsub.map _).nodup hg.apart
  · have h1 := out_len (t := pre) (fun y hy => hg.each y (by rw [ht]; simp [hy])) h
    have h2 := modes_len1 (hx.q.out h)
    omega

/-- At the end the map of who waits is right again. -/
theorem wok_end {t : Tab} (hg : Good t) {h : Int} {wl : List (Int × ByteArray)} (hw : WOk t (relM t h).2 h wl) (hnd : (wl.map Prod.fst).Nodup) : (delL wl h).Perm (waitsL (relM t h).2) := by
  refine (List.perm_ext_iff_of_nodup ?_ ?_).2 fun ⟨a, n⟩ => ?_
  · exact (List.filter_sublist).nodup (nodup_of_map Prod.fst hnd)
  · exact nodup_of_map Prod.fst (relM_good hg h).apart
  · have h1 : (a, n) ∈ delL wl h ↔ (a, n) ∈ wl ∧ a ≠ h := by simp [delL]
    rw [h1, hw a n]
    constructor
    · rintro ⟨q | q, hne⟩
      · exact absurd q.1 hne
      · exact q.2
    · intro q
      have hne : a ≠ h := by
        rintro rfl
        obtain ⟨x, hx, _, y, hy, e⟩ := mem_waits.1 q
        obtain ⟨hx1, _⟩ := List.mem_filter.1 hx
        obtain ⟨z, hz, rfl⟩ := List.mem_map.1 hx1
        rw [relT_eq (hg.each z hz)] at hy
        obtain ⟨p, e1, _⟩ := grant_suffix (outL z.q a) (outL z.has a)
        have hy2 : y ∈ outL z.q a := by rw [e1]; exact List.mem_append_right _ hy
        exact (out_mem.1 hy2).2 e
      exact ⟨.inr ⟨hne, q⟩, hne⟩

end Go.Proofs.YtipfjjcokajjjaaDoor
