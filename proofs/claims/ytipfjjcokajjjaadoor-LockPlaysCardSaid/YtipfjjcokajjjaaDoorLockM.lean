/-
  What is said here: a table of locks as data (Tab): taking, releasing, who waits; that a good table (Good) stays good; with no program in sight.
  No condition.
-/
import Derived.Test.YtipfjjcokajjjaaDoorKit
set_option linter.unusedVariables false
set_option linter.unusedSimpArgs false
namespace Go.Proofs.YtipfjjcokajjjaaDoor

abbrev ltB (a b : ByteArray) : Prop := a.data.toList < b.data.toList

theorem ltB_irrefl (a : ByteArray) : ¬ ltB a a := List.lt_irrefl _
theorem ltB_trans {a b c : ByteArray} (h : ltB a b) (k : ltB b c) : ltB a c := List.lt_trans h k
theorem ltB_tri {a b : ByteArray} (h : ¬ ltB a b) (k : ¬ ltB b a) : a = b := by
  have e : a.data.toList = b.data.toList := List.le_antisymm (by simpa using k) (by simpa using h)
  cases a; cases b
  simp only [ByteArray.mk.injEq]
  exact Array.toList_inj.1 e
theorem ltB_asymm {a b : ByteArray} (h : ltB a b) : ¬ ltB b a := fun k => ltB_irrefl a (ltB_trans h k)
theorem ltB_ne {a b : ByteArray} (h : ltB a b) : a ≠ b := fun e => ltB_irrefl a (by rw [e] at h ⊢; exact h)

/-- Holders with their modes. -/
abbrev HM := List (Int × Int)

structure Th where
  name : ByteArray
  has : HM
  q : HM

abbrev Tab := List Th

def modeL : HM → Int → Int
  | [], _ => 0
  | x :: l, h => if x.1 = h then x.2 else modeL l h

theorem modeL_cons (x : Int × Int) (l : HM) (h : Int) : modeL (x :: l) h = if x.1 = h then x.2 else modeL l h := rfl

def barsB (x : Int × Int) (h want : Int) : Bool := decide (x.1 ≠ h) && (decide (x.2 = 2) || decide (want = 2))
def freeL (l : HM) (h want : Int) : Bool := l.all (fun x => !barsB x h want)
def outL (l : HM) (h : Int) : HM := l.filter (fun x => decide (x.1 ≠ h))
def putL (l : HM) (h want : Int) : HM := outL l h ++ [(h, want)]

def Modes (l : HM) : Prop := (l.map Prod.fst).Nodup ∧ ∀ x ∈ l, 1 ≤ x.1 ∧ x.1 ≤ 1000 ∧ (x.2 = 1 ∨ x.2 = 2)

theorem modes_nil : Modes [] := ⟨List.nodup_nil, by simp⟩

theorem modeL_mem {l : HM} (hl : Modes l) {x : Int × Int} (hx : x ∈ l) : modeL l x.1 = x.2 := by
  obtain ⟨hn, hm⟩ := hl
  clear hm
  induction l with
  | nil => cases hx
  | cons y l ih =>
    rw [List.map_cons, List.nodup_cons] at hn
    unfold modeL
    rcases List.mem_cons.1 hx with rfl | h
    · simp
    · rw [if_neg (fun e => hn.1 (by rw [e]; exact List.mem_map.2 ⟨x, h, rfl⟩))]
      exact ih h hn.2

theorem modeL_not {l : HM} {h : Int} (hn : ∀ x ∈ l, x.1 ≠ h) : modeL l h = 0 := by
  induction l with
  | nil => rfl
  | cons y l ih =>
    unfold modeL
    rw [if_neg (hn y (by simp))]
    exact ih (fun x hx => hn x (by simp [hx]))

theorem modeL_cases {l : HM} (hl : Modes l) (h : Int) : (modeL l h = 0 ∧ ∀ x ∈ l, x.1 ≠ h) ∨ ((modeL l h = 1 ∨ modeL l h = 2) ∧ (h, modeL l h) ∈ l) := by
  by_cases hm : ∃ x ∈ l, x.1 = h
  · right
    obtain ⟨x, hx, rfl⟩ := hm
    rw [modeL_mem hl hx]
    exact ⟨(hl.2 x hx).2.2, hx⟩
  · left
    have : ∀ x ∈ l, x.1 ≠ h := fun x hx e => hm ⟨x, hx, e⟩
    exact ⟨modeL_not this, this⟩

theorem modeL_pos {l : HM} (hl : Modes l) {h : Int} : 0 < modeL l h ↔ ∃ x ∈ l, x.1 = h := by
  rcases modeL_cases hl h with ⟨h1, h2⟩ | ⟨h1, h2⟩
  · constructor
    · omega
    · rintro ⟨x, hx, e⟩; exact absurd e (h2 x hx)
  · exact ⟨fun _ => ⟨_, h2, rfl⟩, fun _ => by omega⟩

theorem out_mem {l : HM} {h : Int} {x : Int × Int} : x ∈ outL l h ↔ x ∈ l ∧ x.1 ≠ h := by simp [outL]
theorem out_self {l : HM} {h : Int} (hn : ∀ x ∈ l, x.1 ≠ h) : outL l h = l := List.filter_eq_self.2 (fun x hx => by simpa using hn x hx)
theorem put_mem {l : HM} {h want : Int} {x : Int × Int} : x ∈ putL l h want ↔ (x ∈ l ∧ x.1 ≠ h) ∨ x = (h, want) := by simp [putL, out_mem]

theorem Modes.out {l : HM} (hl : Modes l) (h : Int) : Modes (outL l h) :=
  ⟨(List.filter_sublist.map _).nodup hl.1, fun x hx => hl.2 x (out_mem.1 hx).1⟩
theorem Modes.put {l : HM} (hl : Modes l) {h want : Int} (h1 : 1 ≤ h ∧ h ≤ 1000) (h2 : want = 1 ∨ want = 2) : Modes (putL l h want) := by
  refine ⟨?_, fun x hx => ?_⟩
  · rw [putL, List.map_append]
    refine List.nodup_append.2 ⟨(hl.out h).1, by simp, ?_⟩
    intro a ha b hb
    obtain ⟨x, hx, rfl⟩ := List.mem_map.1 ha
    simp at hb
    subst hb
    exact (out_mem.1 hx).2
  · rcases put_mem.1 hx with q | rfl
    · exact hl.2 x q.1
    · exact ⟨h1.1, h1.2, h2⟩

theorem modeL_out_self (l : HM) (h : Int) : modeL (outL l h) h = 0 := modeL_not (fun x hx => (out_mem.1 hx).2)
theorem modeL_out {l : HM} {h k : Int} (hk : k ≠ h) : modeL (outL l h) k = modeL l k := by
  induction l with
  | nil => rfl
  | cons x l ih =>
    unfold outL at ih ⊢
    by_cases hx : x.1 = h
    · rw [List.filter_cons_of_neg (by simpa using hx), ih]
      conv => rhs; unfold modeL
      rw [if_neg (fun e => hk (by rw [← e, hx]))]
    · rw [List.filter_cons_of_pos (by simpa using hx)]
      unfold modeL
      rw [ih]
theorem modeL_app (l m : HM) (k : Int) : modeL (l ++ m) k = if modeL l k = 0 ∧ ∀ x ∈ l, x.1 ≠ k then modeL m k else modeL l k := by
  induction l with
  | nil => simp [modeL]
  | cons x l ih =>
    rw [List.cons_append, modeL_cons, modeL_cons]
    by_cases hx : x.1 = k
    · simp [hx]
    · simp only [hx, if_false, ih, List.mem_cons, forall_eq_or_imp, ne_eq, not_false_eq_true, true_and]
theorem modeL_put_self (l : HM) (h want : Int) : modeL (putL l h want) h = want := by
  rw [putL, modeL_app, if_pos ⟨modeL_out_self l h, fun x hx => (out_mem.1 hx).2⟩]
  simp [modeL]
theorem modeL_put {l : HM} {h want k : Int} (hk : k ≠ h) : modeL (putL l h want) k = modeL l k := by
  rw [putL, modeL_app]
  split
  · rename_i c
    rw [modeL_out hk] at c
    simp [modeL, c.1, Ne.symm hk]
  · exact modeL_out hk

theorem free_iff {l : HM} {h want : Int} : freeL l h want = true ↔ ∀ x ∈ l, x.1 ≠ h → x.2 ≠ 2 ∧ want ≠ 2 := by
  unfold freeL
  rw [List.all_eq_true]
  refine forall_congr' fun x => forall_congr' fun _ => ?_
  by_cases h1 : x.1 = h <;> by_cases h2 : x.2 = 2 <;> by_cases h3 : want = 2 <;> simp [barsB, h1, h2, h3]

/-! A thing. -/

structure GoodT (x : Th) : Prop where
  has : Modes x.has
  q : Modes x.q
  some : x.has ≠ [] ∨ x.q ≠ []
  name : x.name.size ≤ 64
  not2 : ∀ y ∈ x.q, modeL x.has y.1 ≠ 2
  bar : ∀ y z, x.q = y :: z → freeL x.has y.1 y.2 = false
  one : ∀ y ∈ x.has, y.2 = 2 → ∀ z ∈ x.has, z = y

/-- Where who has the thing already stands. -/
def upAt (x : Th) : Nat := (x.q.takeWhile (fun y => decide (0 < modeL x.has y.1))).length
def atQ (x : Th) (h : Int) : Nat := if 0 < modeL x.has h then upAt x else x.q.length
def insL (l : HM) (k : Nat) (y : Int × Int) : HM := l.take k ++ y :: l.drop k

def gets (x : Th) (h want : Int) : Bool := freeL x.has h want && (decide (0 < modeL x.has h) || x.q.isEmpty)
def takeT (x : Th) (h want : Int) : Th :=
  if gets x h want then { x with has := putL x.has h want } else { x with q := insL x.q (atQ x h) (h, want) }

theorem insL_mem {l : HM} {k : Nat} {y z : Int × Int} : z ∈ insL l k y ↔ z = y ∨ z ∈ l := by
  unfold insL
  rw [List.mem_append, List.mem_cons]
  have : z ∈ l ↔ z ∈ l.take k ∨ z ∈ l.drop k := by rw [← List.mem_append, List.take_append_drop]
  rw [this]
  constructor
  · rintro (a | a | a)
    · exact .inr (.inl a)
    · exact .inl a
    · exact .inr (.inr a)
  · rintro (a | a | a)
    · exact .inr (.inl a)
    · exact .inl a
    · exact .inr (.inr a)
theorem insL_perm (l : HM) (k : Nat) (y : Int × Int) : (insL l k y).Perm (y :: l) := by
  unfold insL
  have := List.perm_middle (a := y) (l₁ := l.take k) (l₂ := l.drop k)
  rwa [List.take_append_drop] at this

theorem Modes.ins {l : HM} (hl : Modes l) {k : Nat} {y : Int × Int} (hn : ∀ x ∈ l, x.1 ≠ y.1) (h1 : 1 ≤ y.1 ∧ y.1 ≤ 1000) (h2 : y.2 = 1 ∨ y.2 = 2) : Modes (insL l k y) := by
  refine ⟨?_, fun x hx => ?_⟩
  · refine (((insL_perm l k y).map Prod.fst).nodup_iff).2 ?_
    rw [List.map_cons, List.nodup_cons]
    refine ⟨fun hc => ?_, hl.1⟩
    obtain ⟨x, hx, e⟩ := List.mem_map.1 hc
    exact hn x hx e
  · rcases insL_mem.1 hx with rfl | q
    · exact ⟨h1.1, h1.2, h2⟩
    · exact hl.2 x q

theorem one_put {l : HM} (hl : Modes l) (ho : ∀ y ∈ l, y.2 = 2 → ∀ z ∈ l, z = y) {h want : Int} (hf : freeL l h want = true) :
    ∀ y ∈ putL l h want, y.2 = 2 → ∀ z ∈ putL l h want, z = y := by
  have hf := free_iff.1 hf
  intro y hy hy2 z hz
  rcases put_mem.1 hy with ⟨a, b⟩ | rfl
  · exact absurd hy2 (hf y a b).1
  · rcases put_mem.1 hz with ⟨a, b⟩ | rfl
    · exact absurd hy2 (hf z a b).2
    · rfl

theorem takeT_good {x : Th} (h1 : Modes x.has) (h2 : Modes x.q) (h3 : x.name.size ≤ 64) (h4 : ∀ y ∈ x.q, modeL x.has y.1 ≠ 2) (h5 : ∀ y z, x.q = y :: z → freeL x.has y.1 y.2 = false) (h6 : ∀ y ∈ x.has, y.2 = 2 → ∀ z ∈ x.has, z = y)
    {h want : Int} (hh : 1 ≤ h ∧ h ≤ 1000) (hw : want = 1 ∨ want = 2) (hlt : modeL x.has h < want) (hnq : ∀ y ∈ x.q, y.1 ≠ h) : GoodT (takeT x h want) := by
  unfold takeT
  split
  · rename_i hg
    have hf : freeL x.has h want = true := by unfold gets at hg; simp at hg; exact hg.1
    refine ⟨h1.put hh hw, h2, .inl (by simp [putL]), h3, ?_, ?_, one_put h1 h6 hf⟩
    · intro y hy
      show modeL (putL _ _ _) _ ≠ 2
      rw [modeL_put (hnq y hy)]
      exact h4 y hy
    · intro y z hyz
      have := h5 y z hyz
      cases hq : freeL (putL x.has h want) y.1 y.2 with
      | false => rfl
      | true =>
        exfalso
        have hq := free_iff.1 hq
        have : freeL x.has y.1 y.2 = true := free_iff.2 fun u hu hne => by
          by_cases huh : u.1 = h
          · have hym := hq (h, want) (put_mem.2 (.inr rfl)) (fun e => hnq y (by show y ∈ x.q; rw [show x.q = y :: z from hyz]; simp) e.symm)
            have : modeL x.has h = u.2 := by rw [← huh]; exact modeL_mem h1 hu
            exact ⟨by simp at hym; omega, hym.2⟩
          · exact hq u (put_mem.2 (.inl ⟨hu, huh⟩)) hne
        simp_all
  · rename_i hg
    refine ⟨h1, h2.ins hnq hh hw, .inr (by simp [insL]), h3, ?_, ?_, h6⟩
    · intro y hy
      rcases insL_mem.1 hy with rfl | q
      · show modeL x.has h ≠ 2
        omega
      · exact h4 y q
    · intro y z hyz
      show freeL x.has y.1 y.2 = false
      have hyz : insL x.q (atQ x h) (h, want) = y :: z := hyz
      by_cases h0 : (x.q.take (atQ x h)) = []
      · have e : y = (h, want) := by
          unfold insL at hyz
          rw [h0] at hyz
          simp at hyz
          exact hyz.1.symm
        subst e
        have : decide (0 < modeL x.has h) = true ∨ x.q.isEmpty = true := by
          by_cases hm : 0 < modeL x.has h
          · left; simpa using hm
          · right
            unfold atQ at h0
            rw [if_neg hm, List.take_length] at h0
            rw [h0]; rfl
        unfold gets at hg
        cases hfr : freeL x.has h want with
        | false => rfl
        | true =>
          exfalso
          rw [hfr] at hg
          rcases this with q | q <;> simp [q] at hg
      · obtain ⟨u, v, huv⟩ := List.exists_cons_of_ne_nil h0
        have e : x.q = y :: (v ++ x.q.drop (atQ x h)) := by
          have : y = u := by
            unfold insL at hyz
            rw [huv] at hyz
            simp at hyz
            exact hyz.1.symm
          subst this
          conv => lhs; rw [← List.take_append_drop (atQ x h) x.q, huv]
          rfl
        exact h5 _ _ e

/-- Who waits in front goes on, as long as that may be. -/
def grant : HM → HM → List Int × HM × HM
  | has, [] => ([], has, [])
  | has, y :: q => if freeL has y.1 y.2 then (y.1 :: (grant (putL has y.1 y.2) q).1, (grant (putL has y.1 y.2) q).2) else ([], has, y :: q)

def mineB (x : Th) (h : Int) : Bool := decide (0 < modeL x.has h) || decide (0 < modeL x.q h)
def relT (x : Th) (h : Int) : List Int × Th :=
  if mineB x h then ((grant (outL x.has h) (outL x.q h)).1, { x with has := (grant (outL x.has h) (outL x.q h)).2.1, q := (grant (outL x.has h) (outL x.q h)).2.2 }) else ([], x)
def fullT (x : Th) : Bool := !(x.has.isEmpty && x.q.isEmpty)

theorem grant_suffix : ∀ (q has : HM), ∃ p, q = p ++ (grant has q).2.2 ∧ (grant has q).1 = p.map Prod.fst
  | [], has => ⟨[], rfl, rfl⟩
  | y :: q, has => by
    unfold grant
    split
    · obtain ⟨p, h1, h2⟩ := grant_suffix q (putL has y.1 y.2)
      exact ⟨y :: p, by simpa using h1, by simpa using h2⟩
    · exact ⟨[], rfl, rfl⟩

theorem grant_good : ∀ (q has : HM), Modes has → Modes q → (∀ y ∈ q, modeL has y.1 ≠ 2) → (∀ y ∈ has, y.2 = 2 → ∀ z ∈ has, z = y) →
    Modes (grant has q).2.1 ∧ Modes (grant has q).2.2 ∧ (∀ y ∈ (grant has q).2.2, modeL (grant has q).2.1 y.1 ≠ 2) ∧ (∀ y ∈ (grant has q).2.1, y.2 = 2 → ∀ z ∈ (grant has q).2.1, z = y) ∧
    (∀ y z, (grant has q).2.2 = y :: z → freeL (grant has q).2.1 y.1 y.2 = false)
  | [], has, h1, h2, h3, h4 => ⟨h1, modes_nil, by simp [grant], h4, by simp [grant]⟩
  | y :: q, has, h1, h2, h3, h4 => by
    unfold grant
    split
    · rename_i hf
      have hy := h2.2 y (by simp)
      have hn : ∀ z ∈ q, z.1 ≠ y.1 := fun z hz e => by
        have := h2.1
        rw [List.map_cons, List.nodup_cons] at this
        exact this.1 (by rw [← e]; exact List.mem_map.2 ⟨z, hz, rfl⟩)
      have h2' : Modes q := ⟨(List.nodup_cons.1 (by simpa using h2.1 : (y.1 :: q.map Prod.fst).Nodup)).2, fun z hz => h2.2 z (by simp [hz])⟩
      exact grant_good q _ (h1.put ⟨hy.1, hy.2.1⟩ hy.2.2) h2' (fun z hz => by rw [modeL_put (hn z hz)]; exact h3 z (by simp [hz])) (one_put h1 h4 hf)
    · rename_i hf
      refine ⟨h1, h2, h3, h4, ?_⟩
      intro u v huv
      simp only [List.cons.injEq] at huv
      obtain ⟨rfl, rfl⟩ := huv
      simpa using hf

theorem relT_good {x : Th} (hx : GoodT x) (h : Int) (hf : fullT (relT x h).2 = true) : GoodT (relT x h).2 := by
  unfold relT at hf ⊢
  split
  · rename_i hm
    rw [if_pos hm] at hf
    obtain ⟨a, b, c, d, e⟩ := grant_good (outL x.q h) (outL x.has h) (hx.has.out h) (hx.q.out h) (fun y hy => by rw [modeL_out (out_mem.1 hy).2]; exact hx.not2 y (out_mem.1 hy).1)
      (fun y hy h2 z hz => hx.one y (out_mem.1 hy).1 h2 z (out_mem.1 hz).1)
    refine ⟨a, b, ?_, hx.name, c, e, d⟩
    simp only [fullT, Bool.not_eq_true', Bool.and_eq_false_iff, List.isEmpty_eq_false_iff] at hf
    exact hf
  · exact hx
theorem relT_name (x : Th) (h : Int) : (relT x h).2.name = x.name := by unfold relT; split <;> rfl

/-! The table. -/

def waitsL (t : Tab) : List (Int × ByteArray) := t.flatMap (fun x => x.q.map (fun y => (y.1, x.name)))

structure Good (t : Tab) : Prop where
  sorted : t.Pairwise (fun a b => ltB a.name b.name)
  len : t.length ≤ 256
  each : ∀ x ∈ t, GoodT x
  apart : ((waitsL t).map Prod.fst).Nodup

theorem good_nil : Good [] := ⟨.nil, by simp, by simp, by simp [waitsL]⟩

def getT (t : Tab) (n : ByteArray) : Option Th := t.find? (fun x => decide (x.name = n))
def lo (t : Tab) (n : ByteArray) : Tab := t.filter (fun x => decide (ltB x.name n))
def hi (t : Tab) (n : ByteArray) : Tab := t.filter (fun x => decide (ltB n x.name))
def modeM (t : Tab) (h : Int) (n : ByteArray) : Int := match getT t n with | some x => modeL x.has h | none => 0
def waitsM (t : Tab) (h : Int) : Option ByteArray := (t.find? (fun x => decide (0 < modeL x.q h))).map (·.name)

def takeM (t : Tab) (h : Int) (n : ByteArray) (want : Int) : Nat × Tab :=
  if h < 1 ∨ 1000 < h ∨ 64 < n.size ∨ want < 1 ∨ 2 < want then (1, t)
  else if (waitsM t h).isSome then (161, t)
  else if want ≤ modeM t h n then (0, t)
  else if getT t n = none ∧ t.length = 256 then (3, t)
  else (if gets ((getT t n).getD ⟨n, [], []⟩) h want then 0 else 120, lo t n ++ takeT ((getT t n).getD ⟨n, [], []⟩) h want :: hi t n)

def relM (t : Tab) (h : Int) : List Int × Tab := (t.flatMap (fun x => (relT x h).1), (t.map (fun x => (relT x h).2)).filter fullT)

theorem split_sorted {t : Tab} (hs : t.Pairwise (fun a b => ltB a.name b.name)) (n : ByteArray) :
    (∃ x, getT t n = some x ∧ x.name = n ∧ x ∈ t ∧ t = lo t n ++ x :: hi t n) ∨ (getT t n = none ∧ (∀ x ∈ t, x.name ≠ n) ∧ t = lo t n ++ hi t n) := by
  induction t with
  | nil => right; exact ⟨rfl, by simp, rfl⟩
  | cons y t ih =>
    obtain ⟨h1, h2⟩ := List.pairwise_cons.1 hs
    by_cases hy : y.name = n
    · left
      refine ⟨y, by simp [getT, hy], hy, by simp, ?_⟩
      have e1 : lo (y :: t) n = [] := by
        refine List.filter_eq_nil_iff.2 fun x hx => ?_
        rcases List.mem_cons.1 hx with rfl | q
        · simp only [decide_eq_true_eq]; rw [hy]; exact ltB_irrefl _
        · simp only [decide_eq_true_eq]; rw [← hy]; exact ltB_asymm (h1 x q)
      have e2 : hi (y :: t) n = t := by
        unfold hi
        rw [List.filter_cons_of_neg (by simp only [decide_eq_true_eq]; rw [hy]; exact ltB_irrefl _)]
        exact List.filter_eq_self.2 fun x hx => by simp only [decide_eq_true_eq]; rw [← hy]; exact h1 x hx
      rw [e1, e2]; rfl
    · by_cases hlt : ltB y.name n
      · have e1 : lo (y :: t) n = y :: lo t n := List.filter_cons_of_pos (by simpa using hlt)
        have e2 : hi (y :: t) n = hi t n := List.filter_cons_of_neg (by simp only [decide_eq_true_eq]; exact ltB_asymm hlt)
        have e3 : getT (y :: t) n = getT t n := by unfold getT; rw [List.find?_cons_of_neg (by simpa using hy)]
        rw [e1, e2, e3]
        rcases ih h2 with ⟨x, a, b, c, d⟩ | ⟨a, b, c⟩
        · left; exact ⟨x, a, b, by simp [c], by rw [List.cons_append, ← d]⟩
        · right
          refine ⟨a, fun x hx => ?_, by rw [List.cons_append, ← c]⟩
          rcases List.mem_cons.1 hx with rfl | q
          · exact hy
          · exact b x q
      · have hgt : ltB n y.name := Decidable.byContradiction fun q => hy (ltB_tri hlt q)
        have hall : ∀ x ∈ y :: t, ltB n x.name := by
          intro x hx
          rcases List.mem_cons.1 hx with rfl | q
          · exact hgt
          · exact ltB_trans hgt (h1 x q)
        right
        refine ⟨?_, fun x hx e => ltB_irrefl n (by have := hall x hx; rwa [e] at this), ?_⟩
        · unfold getT
          refine List.find?_eq_none.2 fun x hx => ?_
          simp only [decide_eq_true_eq]
          exact fun e => ltB_irrefl n (by have := hall x hx; rwa [e] at this)
        · have e1 : lo (y :: t) n = [] := List.filter_eq_nil_iff.2 fun x hx => by simp only [decide_eq_true_eq]; exact ltB_asymm (hall x hx)
          have e2 : hi (y :: t) n = y :: t := List.filter_eq_self.2 fun x hx => by simpa using hall x hx
          rw [e1, e2]; rfl

theorem waitsL_app (s t : Tab) : waitsL (s ++ t) = waitsL s ++ waitsL t := by unfold waitsL; rw [List.flatMap_append]
theorem waitsL_cons (x : Th) (t : Tab) : waitsL (x :: t) = x.q.map (fun y => (y.1, x.name)) ++ waitsL t := rfl
theorem mem_waits {t : Tab} {h : Int} {n : ByteArray} : (h, n) ∈ waitsL t ↔ ∃ x ∈ t, x.name = n ∧ ∃ y ∈ x.q, y.1 = h := by
  unfold waitsL
  rw [List.mem_flatMap]
  refine exists_congr fun x => ?_
  constructor
  · rintro ⟨hx, hy⟩
    obtain ⟨y, hy, e⟩ := List.mem_map.1 hy
    simp only [Prod.mk.injEq] at e
    exact ⟨hx, e.2, y, hy, e.1⟩
  · rintro ⟨hx, e, y, hy, e'⟩
    exact ⟨hx, List.mem_map.2 ⟨y, hy, by rw [e, e']⟩⟩

theorem waitsM_some {t : Tab} (hg : ∀ x ∈ t, GoodT x) {h : Int} {n : ByteArray} (e : waitsM t h = some n) : (h, n) ∈ waitsL t := by
  unfold waitsM at e
  obtain ⟨x, hx, rfl⟩ := Option.map_eq_some_iff.1 e
  have h1 := List.find?_some hx
  simp only [decide_eq_true_eq] at h1
  exact mem_waits.2 ⟨x, List.mem_of_find?_eq_some hx, rfl, (modeL_pos (hg x (List.mem_of_find?_eq_some hx)).q).1 h1⟩
theorem waitsM_none {t : Tab} (hg : ∀ x ∈ t, GoodT x) {h : Int} (e : waitsM t h = none) : ∀ y ∈ waitsL t, y.1 ≠ h := by
  unfold waitsM at e
  rw [Option.map_eq_none_iff, List.find?_eq_none] at e
  rintro ⟨a, n⟩ hy rfl
  obtain ⟨x, hx, _, hq⟩ := mem_waits.1 hy
  exact e x hx (by simpa using (modeL_pos (hg x hx).q).2 hq)
theorem waits_uniq {t : Tab} (ha : ((waitsL t).map Prod.fst).Nodup) {h : Int} {n m : ByteArray} (h1 : (h, n) ∈ waitsL t) (h2 : (h, m) ∈ waitsL t) : n = m := by
  obtain ⟨s, u, e⟩ := List.append_of_mem h1
  rw [e, List.map_append, List.map_cons] at ha
  have hq := List.nodup_append.1 ha
  rw [e] at h2
  rcases List.mem_append.1 h2 with q | q
  · exact absurd rfl (hq.2.2 _ (List.mem_map.2 ⟨_, q, rfl⟩) _ (List.mem_cons_self ..))
  · rcases List.mem_cons.1 q with q | q
    · exact (congrArg Prod.snd q).symm
    · exact absurd (List.mem_map.2 ⟨_, q, rfl⟩) (List.nodup_cons.1 hq.2.1).1
theorem waitsM_iff {t : Tab} (hg : Good t) {h : Int} {n : ByteArray} : waitsM t h = some n ↔ (h, n) ∈ waitsL t := by
  refine ⟨waitsM_some hg.each, fun hm => ?_⟩
  cases e : waitsM t h with
  | none => exact absurd rfl (waitsM_none hg.each e _ hm)
  | some m => rw [waits_uniq hg.apart (waitsM_some hg.each e) hm]

theorem takeT_name (x : Th) (h want : Int) : (takeT x h want).name = x.name := by unfold takeT; split <;> rfl
theorem takeT_waits (x : Th) (h want : Int) : ((takeT x h want).q.map (fun y => (y.1, (takeT x h want).name))).Perm (if gets x h want then x.q.map (fun y => (y.1, x.name)) else (h, x.name) :: x.q.map (fun y => (y.1, x.name))) := by
  unfold takeT
  split
  · exact List.Perm.refl _
  · exact (insL_perm _ _ _).map _

/-- The thing that is taken, ahead of it. -/
theorem taken {t : Tab} (hg : Good t) (n : ByteArray) (hn : n.size ≤ 64) :
    let x := (getT t n).getD ⟨n, [], []⟩
    x.name = n ∧ Modes x.has ∧ Modes x.q ∧ x.name.size ≤ 64 ∧ (∀ y ∈ x.q, modeL x.has y.1 ≠ 2) ∧ (∀ y z, x.q = y :: z → freeL x.has y.1 y.2 = false) ∧ (∀ y ∈ x.has, y.2 = 2 → ∀ z ∈ x.has, z = y) ∧
    (waitsL t).Perm (x.q.map (fun y => (y.1, x.name)) ++ (waitsL (lo t n) ++ waitsL (hi t n))) := by
  rcases split_sorted hg.sorted n with ⟨x, a, b, c, d⟩ | ⟨a, b, c⟩
  · have hx := hg.each x c
    simp only [a, Option.getD_some]
    refine ⟨b, hx.has, hx.q, hx.name, hx.not2, hx.bar, hx.one, ?_⟩
    conv => lhs; rw [d]
    rw [waitsL_app, waitsL_cons]
    rw [← List.append_assoc, ← List.append_assoc]
    exact List.Perm.append_right _ List.perm_append_comm
  · simp only [a, Option.getD_none]
    refine ⟨trivial, modes_nil, modes_nil, hn, by simp, by simp, by simp, ?_⟩
    conv => lhs; rw [c]
    rw [waitsL_app]
    exact List.Perm.refl _

theorem takeM_good {t : Tab} (hg : Good t) (h : Int) (n : ByteArray) (want : Int) : Good (takeM t h n want).2 := by
  unfold takeM
  split
  · exact hg
  · rename_i ha
    have hh : 1 ≤ h ∧ h ≤ 1000 := by omega
    have hw : want = 1 ∨ want = 2 := by omega
    have hns : n.size ≤ 64 := by omega
    split
    · exact hg
    · rename_i hwt
      have hwt' : waitsM t h = none := by simpa using hwt
      have hnw := waitsM_none hg.each hwt'
      split
      · exact hg
      · rename_i hm
        split
        · exact hg
        · rename_i hf
          obtain ⟨e1, e2, e3, e4, e5, e6, e7, e8⟩ := taken hg n hns
          generalize hx : (getT t n).getD ⟨n, [], []⟩ = x at *
          have hml : modeL x.has h < want := by
            have : modeM t h n = modeL x.has h := by
              unfold modeM
              rw [← hx]
              cases getT t n <;> rfl
            omega
          have hnq : ∀ y ∈ x.q, y.1 ≠ h := fun y hy e => hnw (y.1, x.name) (e8.mem_iff.2 (List.mem_append_left _ (List.mem_map.2 ⟨y, hy, rfl⟩))) e
          have hgt : GoodT (takeT x h want) := takeT_good e2 e3 e4 e5 e6 e7 hh hw hml hnq
          have hlo : (lo t n).Sublist t := List.filter_sublist
          have hhi : (hi t n).Sublist t := List.filter_sublist
          have hlon : ∀ y ∈ lo t n, ltB y.name n := fun y hy => by simpa using (List.mem_filter.1 hy).2
          have hhin : ∀ y ∈ hi t n, ltB n y.name := fun y hy => by simpa using (List.mem_filter.1 hy).2
          refine ⟨?_, ?_, ?_, ?_⟩
          · refine List.pairwise_append.2 ⟨hg.sorted.sublist hlo, List.pairwise_cons.2 ⟨?_, hg.sorted.sublist hhi⟩, ?_⟩
            · intro y hy
              rw [takeT_name, e1]
              exact hhin y hy
            · intro y hy z hz
              rcases List.mem_cons.1 hz with rfl | q
              · rw [takeT_name, e1]; exact hlon y hy
              · exact ltB_trans (hlon y hy) (hhin z q)
          · have hl := hg.len
            rw [List.length_append, List.length_cons]
            rcases split_sorted hg.sorted n with ⟨x', a, b, c, d⟩ | ⟨a, b, c⟩
            · have := congrArg List.length d
              rw [List.length_append, List.length_cons] at this
              omega
            · have := congrArg List.length c
              rw [List.length_append] at this
              have hne : t.length ≠ 256 := fun e => hf ⟨a, e⟩
              omega
          · intro y hy
            rcases List.mem_append.1 hy with q | q
            · exact hg.each y (hlo.subset q)
            · rcases List.mem_cons.1 q with rfl | q
              · exact hgt
              · exact hg.each y (hhi.subset q)
          · rw [waitsL_app, waitsL_cons]
            have hp : (waitsL (lo t n) ++ ((takeT x h want).q.map (fun y => (y.1, (takeT x h want).name)) ++ waitsL (hi t n))).Perm ((if gets x h want then x.q.map (fun y => (y.1, x.name)) else (h, x.name) :: x.q.map (fun y => (y.1, x.name))) ++ (waitsL (lo t n) ++ waitsL (hi t n))) := by
              rw [← List.append_assoc, ← List.append_assoc]
              refine List.Perm.append_right _ ?_
              exact List.perm_append_comm.trans (List.Perm.append_right _ (takeT_waits x h want))
            refine ((hp.map Prod.fst).nodup_iff).2 ?_
            have hap := ((e8.map Prod.fst).nodup_iff).1 hg.apart
            split
            · exact hap
            · rw [List.cons_append, List.map_cons, List.nodup_cons]
              refine ⟨fun hc => ?_, hap⟩
              obtain ⟨y, hy, e⟩ := List.mem_map.1 hc
              exact hnw y (e8.mem_iff.2 hy) e

theorem relT_q (x : Th) (h : Int) : ∃ p, outL x.q h = p ++ (relT x h).2.q ∨ x.q = (relT x h).2.q := by
  unfold relT
  split
  · obtain ⟨p, h1, _⟩ := grant_suffix (outL x.q h) (outL x.has h)
    exact ⟨p, .inl h1⟩
  · exact ⟨[], .inr rfl⟩
theorem relT_sub (x : Th) (h : Int) : (relT x h).2.q.Sublist x.q := by
  obtain ⟨p, h1 | h1⟩ := relT_q x h
  · exact ((List.sublist_append_right p _).trans (by rw [← h1]; exact List.Sublist.refl _)).trans List.filter_sublist
  · rw [← h1]; exact List.Sublist.refl _

theorem relM_waits (t : Tab) (h : Int) : (waitsL (relM t h).2).Sublist (waitsL t) := by
  unfold relM
  induction t with
  | nil => exact List.Sublist.refl _
  | cons x t ih =>
    simp only [List.map_cons] at ih ⊢
    have h1 : ((relT x h).2.q.map (fun y => (y.1, (relT x h).2.name))).Sublist (x.q.map (fun y => (y.1, x.name))) := by
      rw [relT_name]
      exact (relT_sub x h).map _
    by_cases hf : fullT (relT x h).2 = true
    · rw [List.filter_cons_of_pos hf, waitsL_cons, waitsL_cons]
      exact h1.append ih
    · rw [List.filter_cons_of_neg hf, waitsL_cons]
      exact ih.trans (List.sublist_append_right _ _)

theorem relM_good {t : Tab} (hg : Good t) (h : Int) : Good (relM t h).2 := by
  refine ⟨?_, ?_, ?_, ((relM_waits t h).map _).nodup hg.apart⟩
  · refine List.Pairwise.filter _ (List.pairwise_map.2 ?_)
    refine hg.sorted.imp ?_
    intro a b hab
    rw [relT_name, relT_name]
    exact hab
  · exact Nat.le_trans (List.length_filter_le _ _) (by rw [List.length_map]; exact hg.len)
  · intro x hx
    obtain ⟨h1, h2⟩ := List.mem_filter.1 hx
    obtain ⟨y, hy, rfl⟩ := List.mem_map.1 h1
    exact relT_good (hg.each y hy) h h2

/-- For whom h waits. -/
def IsFor (t : Tab) (h o : Int) : Prop := ∃ x ∈ t, ∃ m a b, x.q = a ++ (h, m) :: b ∧ ((∃ y ∈ a, y.1 = o) ∨ ∃ y ∈ x.has, y.1 = o ∧ barsB y h m = true)

def Rising (xs : List Int) : Prop := xs.Pairwise (· < ·)

theorem Rising.ext : ∀ {xs ys : List Int}, Rising xs → Rising ys → (∀ y, y ∈ xs ↔ y ∈ ys) → xs = ys
  | [], [], _, _, _ => rfl
  | [], y :: ys, _, _, h => by have := (h y).2 (by simp); simp at this
  | x :: xs, [], _, _, h => by have := (h x).1 (by simp); simp at this
  | x :: xs, y :: ys, hx, hy, h => by
    have hx1 := (List.pairwise_cons.1 hx)
    have hy1 := (List.pairwise_cons.1 hy)
    have e : x = y := by
      rcases List.mem_cons.1 ((h x).1 (by simp)) with e | e
      · exact e
      · rcases List.mem_cons.1 ((h y).2 (by simp)) with e' | e'
        · exact e'.symm
        · have := hy1.1 x e
          have := hx1.1 y e'
          omega
    subst e
    rw [Rising.ext hx1.2 hy1.2]
    intro z
    constructor
    · intro hz
      rcases List.mem_cons.1 ((h z).1 (List.mem_cons_of_mem _ hz)) with e | e
      · subst e; have := hx1.1 z hz; omega
      · exact e
    · intro hz
      rcases List.mem_cons.1 ((h z).2 (List.mem_cons_of_mem _ hz)) with e | e
      · subst e; have := hy1.1 z hz; omega
      · exact e

end Go.Proofs.YtipfjjcokajjjaaDoor
