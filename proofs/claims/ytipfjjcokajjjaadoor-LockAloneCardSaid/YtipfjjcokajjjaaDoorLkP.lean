/-
  What is said here: what the statements LockAlone and LockEnds say of a table as data, with no program in sight.
  No condition.
-/
import Derived.Test.YtipfjjcokajjjaaDoorLkO
import Derived.Test.YtipfjjcokajjjaaDoorLkR
set_option linter.unusedVariables false
set_option linter.unusedSimpArgs false
namespace Go.Proofs.YtipfjjcokajjjaaDoor

/-- Who has a thing alone, has it alone. -/
theorem alone_one {x : Th} (hx : GoodT x) {i j : Int} (hi : modeL x.has i = 2) (hj : 0 < modeL x.has j) : i = j := by
  rcases modeL_cases hx.has i with ⟨h1, _⟩ | ⟨_, h2⟩
  · omega
  · rcases modeL_cases hx.has j with ⟨h3, _⟩ | ⟨_, h4⟩
    · omega
    · have := hx.one _ h2 (by simpa using hi) _ h4
      exact (congrArg Prod.fst this).symm

/-- Who waits, waits for somebody. -/
theorem waits_some {t : Tab} (hg : Good t) {h : Int} {n : ByteArray} (hw : waitsM t h = some n) : ∃ o, IsFor t h o := by
  obtain ⟨x, hx, hxn, ⟨h', m⟩, hy, he⟩ := mem_waits.1 (waitsM_some hg.each hw)
  simp only at he
  subst he
  obtain ⟨k, hk, e⟩ := List.getElem_of_mem hy
  have hk' : x.q[k]? = some (h', m) := by rw [List.getElem?_eq_getElem hk, e]
  cases k with
  | zero =>
    cases hq : x.q with
    | nil => rw [hq] at hy; cases hy
    | cons y z =>
      rw [hq] at hk'
      simp at hk'
      subst hk'
      have hb := (hg.each x hx).bar _ _ hq
      have : ∃ y ∈ x.has, barsB y h' m = true := by
        by_cases hc : ∃ y ∈ x.has, barsB y h' m = true
        · exact hc
        · exfalso
          have : freeL x.has h' m = true := by
            unfold freeL
            rw [List.all_eq_true]
            intro y hy
            cases hb2 : barsB y h' m with
            | false => rfl
            | true => exact absurd ⟨y, hy, hb2⟩ hc
          rw [this] at hb
          cases hb
      obtain ⟨y, hy, hb⟩ := this
      exact ⟨y.1, x, hx, m, [], z, hq, .inr ⟨y, hy, rfl, hb⟩⟩
  | succ k =>
    refine ⟨(x.q[0]'(by omega)).1, (isFor_iff hg hx hk' _).2 (.inl ⟨x.q[0]'(by omega), ?_, rfl⟩)⟩
    rw [List.mem_take_iff_getElem]
    exact ⟨0, by omega, rfl⟩

theorem waits_mode {t : Tab} (hg : Good t) {h : Int} {n : ByteArray} (hw : waitsM t h = some n) : modeM t h n ≠ 2 := by
  obtain ⟨x, hx, hxn, y, hy, rfl⟩ := mem_waits.1 (waitsM_some hg.each hw)
  have hgx : getT t n = some x := by
    rcases split_sorted hg.sorted n with ⟨z, a1, a2, a3, _⟩ | ⟨_, a2, _⟩
    · rw [a1, same_name hg a3 hx (a2.trans hxn.symm)]
    · exact absurd hxn (a2 x hx)
  unfold modeM
  rw [hgx]
  exact (hg.each x hx).not2 y hy

theorem mode_at {t : Tab} (hg : Good t) {x : Th} (hx : x ∈ t) (h : Int) : modeM t h x.name = modeL x.has h := by
  have hgx : getT t x.name = some x := by
    rcases split_sorted hg.sorted x.name with ⟨z, a1, a2, a3, _⟩ | ⟨_, a2, _⟩
    · rw [a1, same_name hg a3 hx a2]
    · exact absurd rfl (a2 x hx)
  unfold modeM
  rw [hgx]

/-- What the granting leaves: whoever was there, or went on. -/
theorem grant_more : ∀ (q has : HM), Modes q → (∀ y ∈ (grant has q).2.1, y ∈ has ∨ ∃ p, q = p ++ (grant has q).2.2 ∧ y ∈ p) ∧ (∀ p, q = p ++ (grant has q).2.2 → ∀ y ∈ p, modeL (grant has q).2.1 y.1 = y.2) ∧ (∀ k, (∀ y ∈ q, y.1 ≠ k) → modeL (grant has q).2.1 k = modeL has k)
  | [], has, _ => ⟨fun y hy => .inl hy, (fun p e y hy => by
      have : p = [] := by simpa [grant] using e
      subst this; cases hy), fun _ _ => rfl⟩
  | y :: q, has, hq => by
    have hz : Modes q := ⟨(List.nodup_cons.1 (by simpa using hq.1 : (y.1 :: q.map Prod.fst).Nodup)).2, fun x hx => hq.2 x (by simp [hx])⟩
    have hn : ∀ z ∈ q, z.1 ≠ y.1 := fun z hz e => (List.nodup_cons.1 (by simpa using hq.1 : (y.1 :: q.map Prod.fst).Nodup)).1 (by rw [← e]; exact List.mem_map.2 ⟨z, hz, rfl⟩)
    unfold grant
    split
    · obtain ⟨h1, h2, h3⟩ := grant_more q (putL has y.1 y.2) hz
      obtain ⟨p0, e0, _⟩ := grant_suffix q (putL has y.1 y.2)
      refine ⟨fun z hz => ?_, fun p e z hz => ?_, fun k hk => ?_⟩
      · rcases h1 z hz with a | ⟨p, e, a⟩
        · rcases put_mem.1 a with ⟨a, _⟩ | rfl
          · exact .inl a
          · exact .inr ⟨y :: p0, by simp only; rw [List.cons_append, ← e0], List.mem_cons_self ..⟩
        · exact .inr ⟨y :: p, by simp only; rw [List.cons_append, ← e], List.mem_cons_of_mem _ a⟩
      · simp only at e ⊢
        cases p with
        | nil =>
          exfalso
          have h1 := congrArg List.length e
          have h2 := congrArg List.length e0
          rw [List.length_append] at h2
          simp only [List.nil_append, List.length_cons] at h1
          omega
        | cons a p =>
          rw [List.cons_append] at e
          simp only [List.cons.injEq] at e
          obtain ⟨rfl, e⟩ := e
          rcases List.mem_cons.1 hz with rfl | hz
          · rw [h3 _ hn, modeL_put_self]
          · exact h2 p e z hz
      · simp only
        rw [h3 k (fun z hz => hk z (by simp [hz])), modeL_put (fun e => hk y (by simp) e.symm)]
    · exact ⟨fun z hz => .inl hz, (fun p e z hz => by
        have : p = [] := by
          have e : y :: q = p ++ (y :: q) := e
          have := congrArg List.length e
          rw [List.length_append] at this
          exact List.eq_nil_of_length_eq_zero (by omega)
        subst this; cases hz), fun _ _ => rfl⟩

/-- Where a thing goes when x is released. -/
theorem rel_mem {t : Tab} {o : Int} {x : Th} : x ∈ (relM t o).2 ↔ ∃ z ∈ t, (relT z o).2 = x ∧ fullT x = true := by
  unfold relM
  simp only
  rw [List.mem_filter, List.mem_map]
  constructor
  · rintro ⟨⟨z, hz, e⟩, hf⟩; exact ⟨z, hz, e, hf⟩
  · rintro ⟨z, hz, e, hf⟩; exact ⟨⟨z, hz, e⟩, hf⟩

/-- Who waits for a thing, while another one, for whom it waits or not, is released. -/
def Still (t : Tab) (h : Int) (n : ByteArray) (S : Int → Prop) : Prop := (waitsM t h = none ∧ 0 < modeM t h n) ∨ (waitsM t h = some n ∧ ∀ o, IsFor t h o → S o)

theorem none_of {t : Tab} (hg : ∀ x ∈ t, GoodT x) {h : Int} (hn : ∀ y ∈ waitsL t, y.1 ≠ h) : waitsM t h = none := by
  cases e : waitsM t h with
  | none => rfl
  | some n => exact absurd rfl (hn _ (waitsM_some hg e))

theorem still_rel {t : Tab} (hg : Good t) {h o : Int} {n : ByteArray} {S : Int → Prop} (hne : o ≠ h) (hs : Still t h n S) : Still (relM t o).2 h n (fun a => S a ∧ a ≠ o) := by
  have hg2 := relM_good hg o
  have hsub := relM_waits t o
  rcases hs with ⟨hw, hm⟩ | ⟨hw, hS⟩
  · left
    refine ⟨none_of hg2.each fun y hy => waitsM_none hg.each hw y (hsub.subset hy), ?_⟩
    cases e : getT t n with
    | none => unfold modeM at hm; rw [e] at hm; simp at hm
    | some x =>
      obtain ⟨hxn, hxt, _⟩ := getT_some hg e
      subst hxn
      rw [mode_at hg hxt] at hm
      have he := relT_eq (hg.each x hxt) o
      have hq : ∀ y ∈ outL x.q o, y.1 ≠ h := fun y hy e2 => waitsM_none hg.each hw (y.1, x.name) (mem_waits.2 ⟨x, hxt, rfl, y, (out_mem.1 hy).1, rfl⟩) e2
      have hmm := (grant_more (outL x.q o) (outL x.has o) ((hg.each x hxt).q.out o)).2.2 h hq
      rw [modeL_out (Ne.symm hne)] at hmm
      have hmem : (relT x o).2 ∈ (relM t o).2 := by
        refine rel_mem.2 ⟨x, hxt, rfl, ?_⟩
        rw [he]
        unfold fullT
        cases hh : (grant (outL x.has o) (outL x.q o)).2.1 with
        | nil => rw [hh] at hmm; simp [modeL] at hmm; omega
        | cons a b => rfl
      have := mode_at hg2 hmem h
      rw [relT_name] at this
      rw [this, he]
      simp only
      omega
  · obtain ⟨x, hxt, hxn, ⟨h', m⟩, hy, hh⟩ := mem_waits.1 (waitsM_some hg.each hw)
    simp only at hh
    subst hh hxn
    have hx := hg.each x hxt
    have he := relT_eq hx o
    obtain ⟨p, e1, _⟩ := grant_suffix (outL x.q o) (outL x.has o)
    obtain ⟨g1, g2, g3⟩ := grant_more (outL x.q o) (outL x.has o) (hx.q.out o)
    have hyo : (h', m) ∈ outL x.q o := out_mem.2 ⟨hy, Ne.symm hne⟩
    have hnd := (hx.q.out o).1
    rw [e1] at hyo
    rcases List.mem_append.1 hyo with hp | hq
    · -- it goes on
      left
      have hmd : modeL (grant (outL x.has o) (outL x.q o)).2.1 h' = m := g2 p e1 _ hp
      have hm1 := (hx.q.2 _ hy).2.2
      simp only at hm1
      have hmem : (relT x o).2 ∈ (relM t o).2 := by
        refine rel_mem.2 ⟨x, hxt, rfl, ?_⟩
        rw [he]
        unfold fullT
        cases hh : (grant (outL x.has o) (outL x.q o)).2.1 with
        | nil => rw [hh] at hmd; simp [modeL] at hmd; omega
        | cons a b => rfl
      refine ⟨?_, ?_⟩
      · refine none_of hg2.each fun y hy2 e2 => ?_
        obtain ⟨y1, y2⟩ := y
        simp only at e2
        subst e2
        obtain ⟨z, hz, hzn, u, hu, hue⟩ := mem_waits.1 hy2
        obtain ⟨z0, hz0, rfl, _⟩ := rel_mem.1 hz
        rw [relT_name] at hzn
        have h1 : (y1, z0.name) ∈ waitsL t := by rw [hzn]; exact hsub.subset hy2
        have h2 : (y1, x.name) ∈ waitsL t := mem_waits.2 ⟨x, hxt, rfl, _, hy, rfl⟩
        obtain rfl := same_name hg hz0 hxt (waits_uniq hg.apart h1 h2)
        rw [he] at hu
        simp only at hu
        rw [e1, List.map_append] at hnd
        exact (List.nodup_append.1 hnd).2.2 _ (List.mem_map.2 ⟨_, hp, rfl⟩) _ (List.mem_map.2 ⟨u, hu, rfl⟩) hue.symm
      · have := mode_at hg2 hmem h'
        rw [relT_name] at this
        rw [this, he]
        simp only
        omega
    · -- it waits on
      right
      have hmem : (relT x o).2 ∈ (relM t o).2 := by
        refine rel_mem.2 ⟨x, hxt, rfl, ?_⟩
        rw [he]
        unfold fullT
        cases hh : (grant (outL x.has o) (outL x.q o)).2.2 with
        | nil => rw [hh] at hq; cases hq
        | cons a b => simp
      have hw2 : waitsM (relM t o).2 h' = some x.name := (waitsM_iff hg2).2 (mem_waits.2 ⟨_, hmem, relT_name x o, (h', m), by rw [he]; exact hq, rfl⟩)
      refine ⟨hw2, fun a ha => ?_⟩
      obtain ⟨i, hi, hie⟩ := List.getElem_of_mem hq
      have hki : ((relT x o).2).q[i]? = some (h', m) := by rw [he]; simp only; rw [List.getElem?_eq_getElem hi, hie]
      have hf := (isFor_iff hg2 hmem hki a).1 ha
      obtain ⟨k, hk, hke⟩ := List.getElem_of_mem hy
      have hkk : x.q[k]? = some (h', m) := by rw [List.getElem?_eq_getElem hk, hke]
      -- whoever stands ahead of it in what is left stood ahead of it
      have ahead : ∀ u v : HM, outL x.q o = u ++ (h', m) :: v → ∀ z ∈ u, z ∈ x.q.take k := by
        intro u v huv z hz
        have h1 : x.q = x.q.take k ++ (h', m) :: x.q.drop (k + 1) := by
          have : (h', m) = x.q[k] := hke.symm
          rw [this, List.getElem_cons_drop, List.take_append_drop]
        have h2 : outL x.q o = outL (x.q.take k) o ++ (h', m) :: outL (x.q.drop (k + 1)) o := by
          conv => lhs; rw [h1]
          unfold outL
          rw [List.filter_append, List.filter_cons_of_pos (by simpa using Ne.symm hne)]
        have h3 : u.length = (outL (x.q.take k) o).length := by
          have m1 : (outL x.q o)[u.length]? = some (h', m) := by rw [huv]; simp
          have m2 : (outL x.q o)[(outL (x.q.take k) o).length]? = some (h', m) := by rw [h2]; simp
          exact modes_idx (hx.q.out o) m1 m2 rfl
        have h4 : u = outL (x.q.take k) o := by
          have := congrArg (List.take u.length) (huv.symm.trans h2)
          rw [List.take_left] at this
          rw [h3, List.take_left] at this
          exact this
        rw [h4] at hz
        exact (out_mem.1 hz).1
      have hane : ∀ z ∈ outL x.q o, z.1 ≠ o := fun z hz => (out_mem.1 hz).2
      rw [he] at hf
      simp only at hf
      have hsplit : (grant (outL x.has o) (outL x.q o)).2.2 = (grant (outL x.has o) (outL x.q o)).2.2.take i ++ (h', m) :: (grant (outL x.has o) (outL x.q o)).2.2.drop (i + 1) := by
        have : (h', m) = (grant (outL x.has o) (outL x.q o)).2.2[i] := hie.symm
        rw [this, List.getElem_cons_drop, List.take_append_drop]
      have hall : outL x.q o = (p ++ (grant (outL x.has o) (outL x.q o)).2.2.take i) ++ (h', m) :: (grant (outL x.has o) (outL x.q o)).2.2.drop (i + 1) := by
        rw [List.append_assoc, ← hsplit]; exact e1
      rcases hf with ⟨z, hz, rfl⟩ | ⟨z, hz, rfl, hb⟩
      · have hz2 := ahead _ _ hall z (List.mem_append_right _ hz)
        refine ⟨hS _ ((isFor_iff hg hxt hkk _).2 (.inl ⟨z, hz2, rfl⟩)), hane z ?_⟩
        rw [e1]
        exact List.mem_append_right _ (List.mem_of_mem_take hz)
      · rcases g1 z hz with hz1 | ⟨p', e', hz1⟩
        · obtain ⟨a1, a2⟩ := out_mem.1 hz1
          exact ⟨hS _ ((isFor_iff hg hxt hkk _).2 (.inr ⟨z, a1, rfl, hb⟩)), a2⟩
        · have hpp : p' = p := by
            have h5 := e'.symm.trans e1
            have h6 := congrArg List.length h5
            rw [List.length_append, List.length_append] at h6
            exact (List.append_inj h5 (by omega)).1
          subst hpp
          have hz2 := ahead _ _ hall z (List.mem_append_left _ hz1)
          refine ⟨hS _ ((isFor_iff hg hxt hkk _).2 (.inl ⟨z, hz2, rfl⟩)), hane z ?_⟩
          rw [e1]
          exact List.mem_append_left _ hz1

/-- All who have, or wait, are among some. -/
def AllIn (t : Tab) (S : Int → Prop) : Prop := ∀ x ∈ t, (∀ y ∈ x.has, S y.1) ∧ ∀ y ∈ x.q, S y.1

theorem allIn_take {t : Tab} (hg : Good t) {S : Int → Prop} (ha : AllIn t S) {h : Int} (hS : S h) (n : ByteArray) (want : Int) : AllIn (takeM t h n want).2 S := by
  unfold takeM
  split
  · exact ha
  · split
    · exact ha
    · split
      · exact ha
      · split
        · exact ha
        · intro x hx
          simp only at hx
          rcases List.mem_append.1 hx with q | q
          · exact ha x (List.mem_filter.1 q).1
          · rcases List.mem_cons.1 q with rfl | q
            · have h0 : (∀ y ∈ ((getT t n).getD ⟨n, [], []⟩).has, S y.1) ∧ ∀ y ∈ ((getT t n).getD ⟨n, [], []⟩).q, S y.1 := by
                cases e : getT t n with
                | none => exact ⟨(fun y hy => by cases hy), (fun y hy => by cases hy)⟩
                | some x => exact ha x (getT_some hg e).2.1
              unfold takeT
              split
              · refine ⟨fun y hy => ?_, h0.2⟩
                rcases put_mem.1 hy with ⟨a, _⟩ | rfl
                · exact h0.1 y a
                · exact hS
              · refine ⟨h0.1, fun y hy => ?_⟩
                rcases insL_mem.1 hy with rfl | a
                · exact hS
                · exact h0.2 y a
            · exact ha x (List.mem_filter.1 q).1

theorem allIn_rel {t : Tab} (hg : Good t) {S : Int → Prop} (ha : AllIn t S) (o : Int) : AllIn (relM t o).2 (fun a => S a ∧ a ≠ o) := by
  intro x hx
  obtain ⟨z, hz, rfl, _⟩ := rel_mem.1 hx
  rw [relT_eq (hg.each z hz)]
  obtain ⟨h1, h2⟩ := ha z hz
  obtain ⟨g1, _, _⟩ := grant_more (outL z.q o) (outL z.has o) ((hg.each z hz).q.out o)
  obtain ⟨p, e1, _⟩ := grant_suffix (outL z.q o) (outL z.has o)
  have hq : ∀ y ∈ outL z.q o, S y.1 ∧ y.1 ≠ o := fun y hy => ⟨h2 y (out_mem.1 hy).1, (out_mem.1 hy).2⟩
  refine ⟨fun y hy => ?_, fun y hy => hq y (by rw [e1]; exact List.mem_append_right _ hy)⟩
  rcases g1 y hy with a | ⟨p', e', a⟩
  · exact ⟨h1 y (out_mem.1 a).1, (out_mem.1 a).2⟩
  · exact hq y (by rw [e']; exact List.mem_append_left _ a)

theorem allIn_none {t : Tab} (hg : Good t) (ha : AllIn t (fun _ => False)) : t = [] := by
  cases t with
  | nil => rfl
  | cons x t =>
    exfalso
    obtain ⟨h1, h2⟩ := ha x (by simp)
    rcases (hg.each x (by simp)).some with q | q
    · obtain ⟨y, l, e⟩ := List.exists_cons_of_ne_nil q
      exact h1 y (by rw [e]; simp)
    · obtain ⟨y, l, e⟩ := List.exists_cons_of_ne_nil q
      exact h2 y (by rw [e]; simp)

end Go.Proofs.YtipfjjcokajjjaaDoor
