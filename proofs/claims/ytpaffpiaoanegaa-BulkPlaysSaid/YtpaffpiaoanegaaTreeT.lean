/-
  What is said here: trees of nodes as data, what each function of package tree makes of them, and that it is what the list of their entries asks; no program in sight.
  No condition.
-/
import Derived.Test.YtpaffpiaoanegaaTreeM
set_option linter.unusedVariables false
set_option linter.unusedSimpArgs false
namespace Go.Proofs.Ytpaffpiaoanegaa

/-- A node: its keys, and what hangs beneath. -/
inductive T where
  | nd (keys : List E) (kids : List T) : T
def T.keys : T → List E | .nd k _ => k
def T.kids : T → List T | .nd _ c => c
instance : Inhabited T := ⟨.nd [] []⟩
theorem T.eta (t : T) : T.nd t.keys t.kids = t := by cases t; rfl
@[simp] theorem T.keys_nd (k : List E) (c : List T) : (T.nd k c).keys = k := rfl
@[simp] theorem T.kids_nd (k : List E) (c : List T) : (T.nd k c).kids = c := rfl

/-- What stands beneath, one key between each two. -/
def inter : List E → List (List E) → List E
  | _, [] => []
  | [], c :: _ => c
  | k :: ks, c :: cs => c ++ k :: inter ks cs

/-- All entries beneath a node, from left to right; h: how many nodes stand one beneath another below it. -/
def toL : Nat → T → List E
  | 0, t => t.keys
  | h + 1, t => inter t.keys (t.kids.map (toL h))

/-- The least number of keys of a node that is not the root. -/
def least (fan : Nat) : Nat := (fan + 1) / 2 - 1

/-- What hangs beneath is as it must be. -/
def Kd (fan : Nat) : Nat → T → Prop
  | 0, t => t.kids = []
  | h + 1, t => t.kids.length = t.keys.length + 1 ∧ ∀ c ∈ t.kids, Kd fan h c ∧ least fan ≤ c.keys.length ∧ c.keys.length < fan

theorem inter_cut (m : E) (k2 : List E) (c2 : List (List E)) (h2 : c2 ≠ []) : ∀ (k1 : List E) (c1 : List (List E)), c1.length = k1.length + 1 → inter (k1 ++ m :: k2) (c1 ++ c2) = inter k1 c1 ++ m :: inter k2 c2
  | [], [], h => by simp at h
  | [], [c], _ => by
    cases c2 with
    | nil => exact absurd rfl h2
    | cons d c2 => rfl
  | [], c :: d :: c1, h => by simp at h
  | k :: k1, [], h => by simp at h
  | k :: k1, c :: c1, h => by
    rw [List.cons_append, List.cons_append, inter, inter_cut m k2 c2 h2 k1 c1 (by simpa using h), inter]
    simp

/-- Two nodes with a key between become one. -/
def joinT (a : T) (m : E) (b : T) : T := .nd (a.keys ++ m :: b.keys) (a.kids ++ b.kids)

theorem toL_join {fan h : Nat} {a b : T} (m : E) (ha : Kd fan h a) (hb : Kd fan h b) : toL h (joinT a m b) = toL h a ++ m :: toL h b := by
  cases h with
  | zero => rfl
  | succ h =>
    obtain ⟨ha1, _⟩ := ha
    obtain ⟨hb1, _⟩ := hb
    unfold joinT
    simp only [toL, T.keys_nd, T.kids_nd, List.map_append]
    refine inter_cut m _ _ ?_ _ _ (by simpa using ha1)
    intro h
    have := congrArg List.length h
    simp at this
    rw [this] at hb1
    simp at hb1

theorem Kd_join {fan h : Nat} {a b : T} (m : E) (ha : Kd fan h a) (hb : Kd fan h b) : Kd fan h (joinT a m b) := by
  cases h with
  | zero => show a.kids ++ b.kids = []; rw [show a.kids = [] from ha, show b.kids = [] from hb]; rfl
  | succ h =>
    obtain ⟨ha1, ha2⟩ := ha
    obtain ⟨hb1, hb2⟩ := hb
    refine ⟨?_, ?_⟩
    · show (a.kids ++ b.kids).length = (a.keys ++ m :: b.keys).length + 1
      simp only [List.length_append, List.length_cons]; omega
    · intro c hc
      rcases List.mem_append.1 (show c ∈ a.kids ++ b.kids from hc) with q | q
      · exact ha2 c q
      · exact hb2 c q

/-- Ahead of, and behind what hangs at a place. -/
def pre : List E → List (List E) → List E
  | k :: ks, c :: cs => c ++ k :: pre ks cs
  | _, _ => []
def post : List E → List (List E) → List E
  | [], _ => []
  | k :: ks, cs => k :: inter ks cs

theorem inter_mid (kb : List E) (c : List E) (cb : List (List E)) : ∀ (ka : List E) (ca : List (List E)), ca.length = ka.length → inter (ka ++ kb) (ca ++ c :: cb) = pre ka ca ++ (c ++ post kb cb)
  | [], [], _ => by
    cases kb with
    | nil => simp [inter, pre, post]
    | cons k kb => simp [inter, pre, post]
  | [], _ :: _, h => by simp at h
  | _ :: _, [], h => by simp at h
  | k :: ka, d :: ca, h => by
    rw [List.cons_append, List.cons_append, inter, inter_mid kb c cb ka ca (by simpa using h), pre]
    simp

/-- A tree cut at its i-th child. -/
theorem T.cut {t : T} {i : Nat} (h1 : t.kids.length = t.keys.length + 1) (hi : i ≤ t.keys.length) : ∃ ka kb ca c cb, t = .nd (ka ++ kb) (ca ++ c :: cb) ∧ ka.length = i ∧ ca.length = i ∧ cb.length = kb.length := by
  have hc : i < t.kids.length := by omega
  refine ⟨t.keys.take i, t.keys.drop i, t.kids.take i, t.kids[i], t.kids.drop (i + 1), ?_, ?_, ?_, ?_⟩
  · rw [List.take_append_drop, List.getElem_cons_drop, List.take_append_drop, T.eta]
  · rw [List.length_take]; omega
  · rw [List.length_take]; omega
  · rw [List.length_drop, List.length_drop]; omega

theorem toL_mid (h : Nat) {ka kb : List E} {ca cb : List T} {c : T} (hl : ca.length = ka.length) :
    toL (h + 1) (.nd (ka ++ kb) (ca ++ c :: cb)) = pre ka (ca.map (toL h)) ++ (toL h c ++ post kb (cb.map (toL h))) := by
  simp only [toL, T.keys_nd, T.kids_nd, List.map_append, List.map_cons]
  exact inter_mid kb _ _ ka _ (by simpa using hl)

theorem keys_sub : ∀ (ks : List E) (cs : List (List E)), cs.length = ks.length + 1 → ks.Sublist (inter ks cs)
  | [], _, _ => List.nil_sublist _
  | k :: ks, [], h => by simp at h
  | k :: ks, c :: cs, h => by
    rw [inter]
    exact List.Sublist.trans (List.Sublist.cons_cons k (keys_sub ks cs (by simpa using h))) (List.sublist_append_right _ _)

theorem Kd.keys {fan h : Nat} {t : T} (hk : Kd fan h t) : t.keys.Sublist (toL h t) := by
  cases h with
  | zero => exact List.Sublist.refl _
  | succ h => exact keys_sub _ _ (by simpa using hk.1)

theorem pre_below : ∀ {ka : List E} {ca : List (List E)} {R : List E} {key : ByteArray}, Sorted (pre ka ca ++ R) → (∀ k ∈ ka, ltB k.1 key) → ∀ x ∈ pre ka ca, ltB x.1 key
  | [], _, _, _, _, _ => by simp [pre]
  | _ :: _, [], _, _, _, _ => by simp [pre]
  | k :: ka, c :: ca, R, key, hs, hk => by
    intro x hx
    rw [pre, List.append_assoc, List.cons_append] at hs
    rw [pre] at hx
    obtain ⟨_, h2, h3⟩ := List.pairwise_append.1 hs
    rcases List.mem_append.1 hx with h | h
    · exact ltB_trans (h3 x h k (by simp)) (hk k (by simp))
    · rcases List.mem_cons.1 h with h | h
      · subst h; exact hk x (by simp)
      · exact pre_below (List.pairwise_cons.1 h2).2 (fun y hy => hk y (by simp [hy])) x h

theorem post_above {k : E} {kb : List E} {cb : List (List E)} (hs : Sorted (post (k :: kb) cb)) : ∀ x ∈ post (k :: kb) cb, x = k ∨ ltB k.1 x.1 := by
  intro x hx
  rcases List.mem_cons.1 hx with h | h
  · exact .inl h
  · exact .inr ((List.pairwise_cons.1 hs).1 x h)

/-- Where a key lies in a tree: the child, and what stands ahead and behind. -/
theorem Kd.at_ {fan h : Nat} {t : T} (hk : Kd fan (h + 1) t) (hs : Sorted (toL (h + 1) t)) (key : ByteArray) :
    ∃ ka kb ca c cb, t = .nd (ka ++ kb) (ca ++ c :: cb) ∧ ka.length = below t.keys key ∧ ca.length = below t.keys key ∧ cb.length = kb.length ∧
      toL (h + 1) t = pre ka (ca.map (toL h)) ++ (toL h c ++ post kb (cb.map (toL h))) ∧ (∀ x ∈ pre ka (ca.map (toL h)), ltB x.1 key) ∧ (∀ x ∈ kb, ¬ ltB x.1 key) ∧ Kd fan h c ∧ least fan ≤ c.keys.length ∧ c.keys.length < fan := by
  obtain ⟨ka, kb, ca, c, cb, ht, h1, h2, h3⟩ := T.cut (i := below t.keys key) hk.1 (below_le _ _)
  have ht' : toL (h + 1) t = pre ka (ca.map (toL h)) ++ (toL h c ++ post kb (cb.map (toL h))) := by rw [ht]; exact toL_mid h (by omega)
  have hks : Sorted t.keys := hs.sublist hk.keys
  refine ⟨ka, kb, ca, c, cb, ht, h1, h2, h3, ht', ?_, ?_, ?_⟩
  · refine pre_below (R := toL h c ++ post kb (cb.map (toL h))) (by rw [← ht']; exact hs) ?_
    intro k hkk
    obtain ⟨j, hj, rfl⟩ := List.getElem_of_mem hkk
    obtain ⟨e, h4, h5⟩ := below_lt (l := t.keys) (key := key) (j := j) (by omega)
    rw [show t.keys = ka ++ kb from by rw [ht]; rfl, List.getElem?_append_left hj, List.getElem?_eq_getElem hj] at h4
    cases h4; exact h5
  · intro x hx
    obtain ⟨j, hj, rfl⟩ := List.getElem_of_mem hx
    have hkl : t.keys = ka ++ kb := by rw [ht]; rfl
    have h4 : t.keys[below t.keys key + j]? = some kb[j] := by
      rw [← h1]
      conv => lhs; arg 1; rw [hkl]
      rw [List.getElem?_append_right (by omega), show ka.length + j - ka.length = j by omega, List.getElem?_eq_getElem hj]
    have hb : below t.keys key < t.keys.length := by
      have := (List.getElem?_eq_some_iff.1 h4).1
      omega
    exact sorted_ge hks (by omega) (List.getElem?_eq_getElem hb) h4 (below_at (List.getElem?_eq_getElem hb))
  · exact hk.2 c (by rw [ht]; simp)

/-- The key stands among the node's own. -/
theorem here_keys {ka kb : List E} {key : ByteArray} (hka : ka.length = below (ka ++ kb) key) : here (ka ++ kb) key = decide ((kb.head?.map (·.1)) = some key) := by
  unfold here
  rw [← hka, List.getElem?_append_right (Nat.le_refl _), Nat.sub_self, List.head?_eq_getElem?]

/-- Behind the place where a key is not among the node's own all is above it. -/
theorem post_gt {kb : List E} {cb : List (List E)} {key : ByteArray} (hs : Sorted (post kb cb)) (h1 : ∀ x ∈ kb, ¬ ltB x.1 key) (h2 : (kb.head?.map (·.1)) ≠ some key) : ∀ x ∈ post kb cb, ltB key x.1 := by
  cases kb with
  | nil => simp [post]
  | cons k kb =>
    have hgt : ltB key k.1 := by
      refine Decidable.byContradiction fun hc => h2 ?_
      simp only [List.head?_cons, Option.map_some, Option.some.injEq]
      exact ltB_tri (h1 k (by simp)) hc
    intro x hx
    rcases post_above hs x hx with h | h
    · subst h; exact hgt
    · exact ltB_trans hgt h

end Go.Proofs.Ytpaffpiaoanegaa
