/-
  What is said here: looking into a tree: what a key has, what is near it, what lies from it on, how deep a tree may be; no program in sight.
  No condition.
-/
import Derived.Test.YtpaffpiaoanegaaTreeE
set_option linter.unusedVariables false
set_option linter.unusedSimpArgs false
namespace Go.Proofs.Ytpaffpiaoanegaa

def getL (l : List E) (key : ByteArray) : Option Int := if here l key then some (l[below l key]!).2 else none
def getT : Nat → T → ByteArray → Option Int
  | 0, t, key => if here t.keys key then some (t.keys[below t.keys key]!).2 else none
  | h + 1, t, key => if here t.keys key then some (t.keys[below t.keys key]!).2 else getT h t.kids[below t.keys key]! key

/-- The key's number, wherever it is found. -/
theorem getL_of {P S : List E} {k : E} {key : ByteArray} (hs : Sorted (P ++ k :: S)) (hk : k.1 = key) : getL (P ++ k :: S) key = some k.2 := by
  have hb : below (P ++ k :: S) key = P.length := by
    rw [below_app (fun x hx => by rw [← hk]; exact (List.pairwise_append.1 hs).2.2 x hx k (by simp)), below_cons, if_neg (by rw [hk]; exact ltB_irrefl _)]
    rfl
  have hh : here (P ++ k :: S) key = true := (here_iff hs key).2 ⟨k, by simp, hk⟩
  unfold getL
  rw [if_pos hh, hb, get_mid rfl]

theorem getL_mid {A M B : List E} {key : ByteArray} (hA : ∀ x ∈ A, ltB x.1 key) (hB : ∀ x ∈ B, ltB key x.1) : getL (A ++ M ++ B) key = getL M key := by
  unfold getL
  rw [here_mid hA hB]
  split
  · rename_i hh
    obtain ⟨P, k, S, h1, h2, h3⟩ := kd_of_here hh
    have hB' : ∀ x ∈ B, ¬ ltB x.1 key := fun x hx => ltB_asymm (hB x hx)
    rw [List.append_assoc, below_app hA, below_end hB', ← h2, h1]
    rw [show A ++ (P ++ k :: S ++ B) = (A ++ P) ++ k :: (S ++ B) by simp, get_mid (by simp), get_mid rfl]
  · rfl

theorem getT_ok {fan : Nat} (key : ByteArray) : ∀ (h : Nat) (t : T), Kd fan h t → Sorted (toL h t) → getT h t key = getL (toL h t) key := by
  have found : ∀ (h : Nat) (t : T), Kd fan h t → Sorted (toL h t) → here t.keys key = true → some (t.keys[below t.keys key]!).2 = getL (toL h t) key := by
    intro h t hk hs hh
    obtain ⟨A, k, B, hl, hA, hke⟩ := kd_of_here hh
    obtain ⟨P, S, h1, h2⟩ := hk.own hl
    rw [h1] at hs ⊢
    rw [getL_of hs hke, ← hA, hl, get_mid rfl]
  intro h
  induction h with
  | zero =>
    intro t hk hs
    by_cases hh : here t.keys key = true
    · rw [getT, if_pos hh]; exact found 0 t hk hs hh
    · rw [getT, if_neg hh]
      show none = getL t.keys key
      unfold getL; rw [if_neg hh]
  | succ h ih =>
    intro t hk hs
    by_cases hh : here t.keys key = true
    · rw [getT, if_pos hh]; exact found (h + 1) t hk hs hh
    · obtain ⟨ka, kb, ca, c, cb, ht, e1, e2, e3, e4, e5, e6, e7, e8, e9⟩ := hk.at_ hs key
      have hkl : t.keys = ka ++ kb := by rw [ht]; rfl
      have hcl : t.kids = ca ++ c :: cb := by rw [ht]; rfl
      have hs' := hs
      rw [e4] at hs'
      have hcs : Sorted (toL h c) := (List.pairwise_append.1 (List.pairwise_append.1 hs').2.1).1
      have hps : Sorted (post kb (cb.map (toL h))) := (List.pairwise_append.1 (List.pairwise_append.1 hs').2.1).2.1
      have hc0 : t.kids[below t.keys key]! = c := by rw [← e1, hcl]; exact get_mid (by omega)
      have hgt := post_gt hps e6 (fun q => hh (by
        rw [hkl, here_keys (by rw [← hkl]; exact e1), decide_eq_true_eq]; exact q))
      rw [getT, if_neg hh, hc0, ih c e7 hcs, e4, ← List.append_assoc, getL_mid e5 hgt]

theorem post_ge {kb : List E} {cb : List (List E)} {key : ByteArray} (hs : Sorted (post kb cb)) (h1 : ∀ x ∈ kb, ¬ ltB x.1 key) : ∀ x ∈ post kb cb, ¬ ltB x.1 key := by
  cases kb with
  | nil => simp [post]
  | cons k kb =>
    intro x hx
    rcases post_above hs x hx with h | h
    · subst h; exact h1 x (by simp)
    · exact fun q => h1 k (by simp) (ltB_trans h q)

/-- The least entry that is not below a key; else what was found further up. -/
def orE (o best : Option E) : Option E := match o with | some e => some e | none => best
def atL (l : List E) (key : ByteArray) (best : Option E) : Option E := orE l[below l key]? best
def isAt (o : Option E) (key : ByteArray) : Bool := match o with | some e => decide (e.1 = key) | none => false
def atT : Nat → T → ByteArray → Option E → Option E
  | 0, t, key, best => orE t.keys[below t.keys key]? best
  | h + 1, t, key, best => if isAt (orE t.keys[below t.keys key]? best) key then orE t.keys[below t.keys key]? best else atT h t.kids[below t.keys key]! key (orE t.keys[below t.keys key]? best)

theorem atT_ok {fan : Nat} (key : ByteArray) : ∀ (h : Nat) (t : T) (best : Option E), Kd fan h t → Sorted (toL h t) → isAt best key = false → atT h t key best = atL (toL h t) key best := by
  intro h
  induction h with
  | zero => intro t best hk hs hb; rfl
  | succ h ih =>
    intro t best hk hs hb
    obtain ⟨ka, kb, ca, c, cb, ht, e1, e2, e3, e4, e5, e6, e7, e8, e9⟩ := hk.at_ hs key
    have hkl : t.keys = ka ++ kb := by rw [ht]; rfl
    have hcl : t.kids = ca ++ c :: cb := by rw [ht]; rfl
    have hs' := hs
    rw [e4] at hs'
    have hcs : Sorted (toL h c) := (List.pairwise_append.1 (List.pairwise_append.1 hs').2.1).1
    have hps : Sorted (post kb (cb.map (toL h))) := (List.pairwise_append.1 (List.pairwise_append.1 hs').2.1).2.1
    have hpge := post_ge hps e6
    have hc0 : t.kids[below t.keys key]! = c := by rw [← e1, hcl]; exact get_mid (by omega)
    have hg : t.keys[below t.keys key]? = kb.head? := by rw [← e1, hkl, List.getElem?_append_right (Nat.le_refl _), Nat.sub_self, List.head?_eq_getElem?]
    rw [atT, hc0, hg]
    by_cases hi : isAt (orE kb.head? best) key = true
    · rw [if_pos hi]
      cases kb with
      | nil => exfalso; rw [show orE ([] : List E).head? best = best from rfl, hb] at hi; cases hi
      | cons k kb =>
        have hkk : k.1 = key := by simpa [orE, isAt] using hi
        have hsp : toL (h + 1) t = (pre ka (ca.map (toL h)) ++ toL h c) ++ k :: inter kb (cb.map (toL h)) := by rw [e4]; simp [post]
        rw [hsp] at hs ⊢
        have hb2 : below ((pre ka (ca.map (toL h)) ++ toL h c) ++ k :: inter kb (cb.map (toL h))) key = (pre ka (ca.map (toL h)) ++ toL h c).length := by
          rw [below_app (fun x hx => by rw [← hkk]; exact (List.pairwise_append.1 hs).2.2 x hx k (by simp)), below_cons, if_neg (by rw [hkk]; exact ltB_irrefl _)]
          rfl
        unfold atL
        rw [hb2, List.getElem?_append_right (Nat.le_refl _), Nat.sub_self]
        rfl
    · rw [if_neg hi, ih c _ e7 hcs (by simpa using hi), e4]
      unfold atL
      rw [below_app e5, below_end hpge, List.getElem?_append_right (by omega), show (pre ka (ca.map (toL h))).length + below (toL h c) key - (pre ka (ca.map (toL h))).length = below (toL h c) key by omega]
      have hle := below_le (toL h c) key
      by_cases hlt : below (toL h c) key < (toL h c).length
      · rw [List.getElem?_append_left hlt, List.getElem?_eq_getElem hlt]; rfl
      · rw [List.getElem?_eq_none (l := toL h c) (by omega), List.getElem?_append_right (by omega), show below (toL h c) key - (toL h c).length = 0 by omega]
        cases kb with
        | nil => rfl
        | cons k kb => rfl

/-- The greatest entry that is below a key; else what was found further up. -/
def befL (l : List E) (key : ByteArray) (best : Option E) : Option E := if 0 < below l key then some l[below l key - 1]! else best
def befT : Nat → T → ByteArray → Option E → Option E
  | 0, t, key, best => if 0 < below t.keys key then some t.keys[below t.keys key - 1]! else best
  | h + 1, t, key, best => befT h t.kids[below t.keys key]! key (if 0 < below t.keys key then some t.keys[below t.keys key - 1]! else best)

theorem pre_last : ∀ {ka : List E} {ca : List (List E)} (k : E), ca.length = ka.length + 1 → ∃ P, pre (ka ++ [k]) ca = P ++ [k]
  | [], [], k, h => by simp at h
  | [], [c], k, _ => ⟨c, rfl⟩
  | [], _ :: _ :: _, k, h => by simp at h
  | _ :: _, [], k, h => by simp at h
  | k0 :: ka, c :: ca, k, h => by
    obtain ⟨P, hP⟩ := pre_last (ka := ka) (ca := ca) k (by simpa using h)
    exact ⟨c ++ k0 :: P, by rw [List.cons_append, pre, hP]; simp⟩

theorem befT_ok {fan : Nat} (key : ByteArray) : ∀ (h : Nat) (t : T) (best : Option E), Kd fan h t → Sorted (toL h t) → befT h t key best = befL (toL h t) key best := by
  intro h
  induction h with
  | zero => intro t best hk hs; rfl
  | succ h ih =>
    intro t best hk hs
    obtain ⟨ka, kb, ca, c, cb, ht, e1, e2, e3, e4, e5, e6, e7, e8, e9⟩ := hk.at_ hs key
    have hkl : t.keys = ka ++ kb := by rw [ht]; rfl
    have hcl : t.kids = ca ++ c :: cb := by rw [ht]; rfl
    have hs' := hs
    rw [e4] at hs'
    have hcs : Sorted (toL h c) := (List.pairwise_append.1 (List.pairwise_append.1 hs').2.1).1
    have hps : Sorted (post kb (cb.map (toL h))) := (List.pairwise_append.1 (List.pairwise_append.1 hs').2.1).2.1
    have hpge := post_ge hps e6
    have hc0 : t.kids[below t.keys key]! = c := by rw [← e1, hcl]; exact get_mid (by omega)
    rw [befT, hc0, ih c _ e7 hcs, e4]
    unfold befL
    rw [below_app e5, below_end hpge]
    have hle := below_le (toL h c) key
    by_cases hp : 0 < below (toL h c) key
    · rw [if_pos hp, if_pos (by omega)]
      congr 1
      rw [List.getElem!_eq_getElem?_getD, List.getElem!_eq_getElem?_getD, List.getElem?_append_right (by omega), List.getElem?_append_left (by omega)]
      congr 2
      omega
    · rw [if_neg hp, show below (toL h c) key = 0 by omega, Nat.add_zero, ← e1]
      rcases List.eq_nil_or_concat ka with hka | ⟨ka', k, hka⟩
      · subst hka
        have : pre [] (ca.map (toL h)) = [] := by cases ca <;> rfl
        rw [this]
        simp
      · rw [List.concat_eq_append] at hka
        subst hka
        obtain ⟨P, hP⟩ := pre_last (ka := ka') (ca := ca.map (toL h)) k (by simp at e1 e2 ⊢; omega)
        rw [if_pos (by simp), if_pos (by rw [hP]; simp), hP]
        congr 1
        rw [hkl, show (ka' ++ [k]).length - 1 = ka'.length by simp, show (P ++ [k]).length - 1 = P.length by simp, List.append_assoc, List.append_assoc]
        exact (get_mid rfl).trans (get_mid rfl).symm

/-! ## From a key on -/
def filt (key : ByteArray) (l : List E) : List E := l.drop (below l key)

theorem filt_all {key : ByteArray} {l : List E} (h : ∀ x ∈ l, ¬ ltB x.1 key) : filt key l = l := by
  unfold filt
  have := below_end (M := []) h
  rw [List.nil_append] at this
  rw [this]
  rfl

/-- What is still to be visited at the i-th place. -/
def restT (key : ByteArray) : Nat → T → Nat → List E
  | 0, t, i => t.keys.drop i
  | h + 1, t, i => inter (t.keys.drop i) ((t.kids.drop i).map (fun c => filt key (toL h c)))

theorem inter_ge {key : ByteArray} : ∀ {kb : List E} {cb : List (List E)}, (∀ x ∈ inter kb cb, ¬ ltB x.1 key) → cb.length = kb.length + 1 → inter kb (cb.map (filt key)) = inter kb cb
  | [], [], _, h => by simp at h
  | [], [c], h1, _ => by simpa [inter] using filt_all (by simpa [inter] using h1)
  | [], _ :: _ :: _, _, h => by simp at h
  | _ :: _, [], _, h => by simp at h
  | k :: kb, c :: cb, h1, h2 => by
    rw [List.map_cons, inter, inter, inter_ge (fun x hx => h1 x (by rw [inter]; simp [hx])) (by simpa using h2), filt_all (fun x hx => h1 x (by rw [inter]; simp [hx]))]

theorem restT_first {fan h : Nat} {t : T} (hk : Kd fan h t) (hs : Sorted (toL h t)) (key : ByteArray) : restT key h t (below t.keys key) = filt key (toL h t) := by
  cases h with
  | zero => rfl
  | succ h =>
    obtain ⟨ka, kb, ca, c, cb, ht, e1, e2, e3, e4, e5, e6, e7, e8, e9⟩ := hk.at_ hs key
    have hkl : t.keys = ka ++ kb := by rw [ht]; rfl
    have hcl : t.kids = ca ++ c :: cb := by rw [ht]; rfl
    have hs' := hs
    rw [e4] at hs'
    have hps : Sorted (post kb (cb.map (toL h))) := (List.pairwise_append.1 (List.pairwise_append.1 hs').2.1).2.1
    have hpge := post_ge hps e6
    have hle := below_le (toL h c) key
    have hR : filt key (toL (h + 1) t) = filt key (toL h c) ++ post kb (cb.map (toL h)) := by
      unfold filt
      rw [e4, below_app e5, below_end hpge, List.drop_append, List.drop_of_length_le (by omega), show (pre ka (ca.map (toL h))).length + below (toL h c) key - (pre ka (ca.map (toL h))).length = below (toL h c) key by omega, List.nil_append, List.drop_append_of_le_length hle]
    rw [hR, restT, ← e1, hkl, hcl, drop_mid rfl, drop_mid (by omega), List.map_cons]
    have h0 : inter kb (filt key (toL h c) :: cb.map (fun c => filt key (toL h c))) = filt key (toL h c) ++ post kb (cb.map (fun c => filt key (toL h c))) := inter_mid kb _ _ [] [] rfl
    rw [h0]
    congr 1
    cases kb with
    | nil => rfl
    | cons k kb =>
      simp only [post]
      congr 1
      have := inter_ge (key := key) (kb := kb) (cb := cb.map (toL h)) (fun x hx => hpge x (by simp [post, hx])) (by simpa using e3)
      rw [List.map_map] at this
      exact this

/-- The key at the place, and what comes behind it. -/
def tailR (o : Option E) (r : List E) : List E := match o with | some k => k :: r | none => []

theorem restT_leaf (key : ByteArray) {t : T} {i : Nat} : restT key 0 t i = tailR t.keys[i]? (restT key 0 t (i + 1)) := by
  simp only [restT]
  by_cases h : i < t.keys.length
  · rw [List.getElem?_eq_getElem h, List.drop_eq_getElem_cons h]; rfl
  · rw [List.getElem?_eq_none (by omega), List.drop_of_length_le (by omega)]; rfl

theorem restT_node (key : ByteArray) {fan h : Nat} {t : T} (hk : Kd fan (h + 1) t) {i : Nat} (hi : i ≤ t.keys.length) :
    restT key (h + 1) t i = filt key (toL h t.kids[i]!) ++ tailR t.keys[i]? (restT key (h + 1) t (i + 1)) := by
  have hl := hk.1
  simp only [restT]
  rw [getElem!_pos t.kids i (by omega), List.drop_eq_getElem_cons (l := t.kids) (i := i) (by omega), List.map_cons]
  by_cases h : i < t.keys.length
  · rw [List.getElem?_eq_getElem h, List.drop_eq_getElem_cons h, inter]; rfl
  · rw [List.getElem?_eq_none (by omega), List.drop_of_length_le (l := t.keys) (by omega), inter]
    simp [tailR]

/-! ## How deep -/
theorem inter_count : ∀ (ks : List E) (cs : List (List E)), cs.length = ks.length + 1 → (inter ks cs).length + 1 = (cs.map (fun c => c.length + 1)).sum
  | [], [], h => by simp at h
  | [], [c], _ => by simp [inter]
  | [], _ :: _ :: _, h => by simp at h
  | _ :: _, [], h => by simp at h
  | k :: ks, c :: cs, h => by
    have := inter_count ks cs (by simpa using h)
    rw [inter, List.map_cons, List.sum_cons, ← this]
    simp only [List.length_append, List.length_cons]; omega

theorem sum_ge {α : Type} (f : α → Nat) (m : Nat) : ∀ (l : List α), (∀ x ∈ l, m ≤ f x) → m * l.length ≤ (l.map f).sum
  | [], _ => by simp
  | x :: l, h => by
    have := sum_ge f m l (fun y hy => h y (by simp [hy]))
    have h0 := h x (by simp)
    rw [List.map_cons, List.sum_cons, List.length_cons, Nat.mul_add, Nat.mul_one]
    omega

theorem count_kid {fan : Nat} : ∀ (h : Nat) (t : T), Kd fan h t → least fan ≤ t.keys.length → (least fan + 1) ^ (h + 1) ≤ (toL h t).length + 1
  | 0, t, hk, hl => by simp only [toL, Nat.zero_add, Nat.pow_one]; omega
  | h + 1, t, hk, hl => by
    have h1 := inter_count t.keys (t.kids.map (toL h)) (by simpa using hk.1)
    have h2 := sum_ge (fun c : T => (toL h c).length + 1) ((least fan + 1) ^ (h + 1)) t.kids (fun c hc => count_kid h c (hk.2 c hc).1 (hk.2 c hc).2.1)
    rw [List.map_map] at h1
    have h3 : (toL (h + 1) t).length + 1 = (t.kids.map (fun c : T => (toL h c).length + 1)).sum := h1
    rw [h3, Nat.pow_succ]
    refine Nat.le_trans (Nat.mul_le_mul_left _ ?_) h2
    rw [hk.1]; omega

theorem count_root {fan h : Nat} {t : T} (hr : Root fan h t) (h0 : toL h t ≠ []) : 2 * (least fan + 1) ^ h ≤ (toL h t).length + 1 := by
  cases h with
  | zero =>
    have : 0 < (toL 0 t).length := List.length_pos_iff.2 h0
    simp; omega
  | succ h =>
    have h1 := inter_count t.keys (t.kids.map (toL h)) (by simpa using hr.kd.1)
    have h2 := sum_ge (fun c : T => (toL h c).length + 1) ((least fan + 1) ^ (h + 1)) t.kids (fun c hc => count_kid h c (hr.kd.2 c hc).1 (hr.kd.2 c hc).2.1)
    rw [List.map_map] at h1
    have h3 : (toL (h + 1) t).length + 1 = (t.kids.map (fun c : T => (toL h c).length + 1)).sum := h1
    rw [h3, Nat.mul_comm]
    refine Nat.le_trans (Nat.mul_le_mul_left _ ?_) h2
    rw [hr.kd.1]
    have := hr.one (by omega)
    omega

end Go.Proofs.Ytpaffpiaoanegaa
