/-
  What is said here: taking a key out of a tree: the entries are those of the list without it; the tree stays as it must be; no program in sight.
  No condition.
-/
import Derived.Test.YtpaffpiaoanegaaTreeP
set_option linter.unusedVariables false
set_option linter.unusedSimpArgs false
namespace Go.Proofs.Ytpaffpiaoanegaa

/-- The greatest key beneath a node. -/
def lastT : Nat → T → E
  | 0, t => t.keys[t.keys.length - 1]!
  | h + 1, t => lastT h t.kids[t.kids.length - 1]!

/-- The i-th child and the one behind it become one. -/
def glueT (t : T) (i : Nat) : T :=
  .nd (t.keys.take i ++ t.keys.drop (i + 1)) (t.kids.take i ++ joinT t.kids[i]! t.keys[i]! t.kids[i + 1]! :: t.kids.drop (i + 2))

/-- The i-th child gets a key of the one beside it, or both become one. -/
def fillT (t : T) (i lst : Nat) : T :=
  if 0 < i ∧ lst < t.kids[i - 1]!.keys.length then
    .nd (t.keys.set (i - 1) (t.kids[i - 1]!.keys[t.kids[i - 1]!.keys.length - 1]!))
      ((t.kids.set (i - 1) (.nd (t.kids[i - 1]!.keys.take (t.kids[i - 1]!.keys.length - 1)) (t.kids[i - 1]!.kids.take (t.kids[i - 1]!.keys.length - 1 + 1)))).set i
        (.nd (t.keys[i - 1]! :: t.kids[i]!.keys) (t.kids[i - 1]!.kids.drop (t.kids[i - 1]!.keys.length - 1 + 1) ++ t.kids[i]!.kids)))
  else if i + 1 < t.kids.length ∧ lst < t.kids[i + 1]!.keys.length then
    .nd (t.keys.set i (t.kids[i + 1]!.keys[0]!))
      ((t.kids.set i (.nd (t.kids[i]!.keys ++ [t.keys[i]!]) (t.kids[i]!.kids ++ t.kids[i + 1]!.kids.take 1))).set (i + 1)
        (.nd (t.kids[i + 1]!.keys.drop 1) (t.kids[i + 1]!.kids.drop 1)))
  else if 0 < i then glueT t (i - 1) else glueT t i

/-- What is behind the call on the child. -/
def dropAt (lst : Nat) (t : T) (i : Nat) (ks : List E) (r : T × Bool) : T × Bool :=
  (if r.1.keys.length < lst then fillT (.nd ks (t.kids.set i r.1)) i lst else .nd ks (t.kids.set i r.1), r.2)

def dropT (lst : Nat) : Nat → ByteArray → T → T × Bool
  | 0, key, t => if here t.keys key then (.nd (t.keys.take (below t.keys key) ++ t.keys.drop (below t.keys key + 1)) t.kids, true) else (t, false)
  | h + 1, key, t =>
    if here t.keys key then dropAt lst t (below t.keys key) (t.keys.set (below t.keys key) (lastT h t.kids[below t.keys key]!)) (dropT lst h (lastT h t.kids[below t.keys key]!).1 t.kids[below t.keys key]!)
    else dropAt lst t (below t.keys key) t.keys (dropT lst h key t.kids[below t.keys key]!)

theorem lastT_ok {fan : Nat} (hfan : 3 ≤ fan) : ∀ (h : Nat) (t : T), Kd fan h t → 1 ≤ t.keys.length → ∃ I, toL h t = I ++ [lastT h t]
  | 0, t, hk, h1 => by
    refine ⟨t.keys.dropLast, ?_⟩
    have hne : t.keys ≠ [] := by intro q; rw [q] at h1; simp at h1
    show t.keys = _
    rw [lastT, getElem!_pos t.keys _ (by omega), ← List.getLast_eq_getElem hne, List.dropLast_concat_getLast]
  | h + 1, t, hk, h1 => by
    obtain ⟨ka, kb, ca, c, cb, ht, e1, e2, e3⟩ := T.cut (t := t) (i := t.keys.length) hk.1 (Nat.le_refl _)
    have hkb : kb = [] := by
      have := congrArg (fun x => x.keys.length) ht
      simp only [T.keys_nd, List.length_append] at this
      exact List.eq_nil_of_length_eq_zero (by omega)
    subst hkb
    have hcb : cb = [] := List.eq_nil_of_length_eq_zero (by simpa using e3)
    subst hcb
    obtain ⟨hc1, hc2, hc3⟩ := hk.2 c (by rw [ht]; simp)
    obtain ⟨I, hI⟩ := lastT_ok hfan h c hc1 (by unfold least at hc2; omega)
    refine ⟨pre ka (ca.map (toL h)) ++ I, ?_⟩
    have hl : lastT (h + 1) t = lastT h c := by
      have hkl : t.kids.length - 1 = ca.length := by rw [ht]; simp
      rw [lastT, hkl]
      congr 1
      rw [ht]
      exact get_mid rfl
    rw [hl]
    conv => lhs; rw [ht]
    rw [toL_mid h (by omega), hI]
    simp [post]

/-- Two children with the key between them. -/
theorem toL_pair (h : Nat) {ka kb : List E} {m : E} {ca cb : List T} {a b : T} (hl : ca.length = ka.length) :
    toL (h + 1) (.nd (ka ++ m :: kb) (ca ++ a :: b :: cb)) = pre ka (ca.map (toL h)) ++ ((toL h a ++ m :: toL h b) ++ post kb (cb.map (toL h))) := by
  rw [toL_mid h hl, post, List.map_cons]
  have : inter kb (toL h b :: cb.map (toL h)) = toL h b ++ post kb (cb.map (toL h)) := inter_mid kb _ _ [] [] rfl
  rw [this]
  simp

/-- May stand beneath a node. -/
def Kid (fan h : Nat) (c : T) : Prop := Kd fan h c ∧ least fan ≤ c.keys.length ∧ c.keys.length < fan

theorem pair_ok {fan h : Nat} {ka kb : List E} {m m' : E} {ca cb : List T} {a b a' b' : T} (hl : ca.length = ka.length) (hr : cb.length = kb.length) (hkids : ∀ x ∈ ca ++ cb, Kid fan h x)
    (ha : Kid fan h a') (hb : Kid fan h b') (he : toL h a' ++ m' :: toL h b' = toL h a ++ m :: toL h b) :
    toL (h + 1) (.nd (ka ++ m' :: kb) (ca ++ a' :: b' :: cb)) = toL (h + 1) (.nd (ka ++ m :: kb) (ca ++ a :: b :: cb)) ∧ Kd fan (h + 1) (.nd (ka ++ m' :: kb) (ca ++ a' :: b' :: cb)) := by
  refine ⟨by rw [toL_pair h hl, toL_pair h hl, he], ?_, ?_⟩
  · simp only [T.keys_nd, T.kids_nd, List.length_append, List.length_cons]; omega
  · intro x hx
    simp only [T.kids_nd, List.mem_append, List.mem_cons] at hx
    rcases hx with q | q | q | q
    · exact hkids x (List.mem_append_left _ q)
    · subst q; exact ha
    · subst q; exact hb
    · exact hkids x (List.mem_append_right _ q)

theorem glue_ok {fan h : Nat} {ka kb : List E} {m : E} {ca cb : List T} {a b : T} (hfan : 3 ≤ fan) (hl : ca.length = ka.length) (hr : cb.length = kb.length) (hkids : ∀ x ∈ ca ++ cb, Kid fan h x)
    (ha : Kd fan h a) (hb : Kd fan h b) (hn : a.keys.length + b.keys.length + 1 = 2 * least fan) :
    glueT (.nd (ka ++ m :: kb) (ca ++ a :: b :: cb)) ka.length = .nd (ka ++ kb) (ca ++ joinT a m b :: cb) ∧
    toL (h + 1) (.nd (ka ++ kb) (ca ++ joinT a m b :: cb)) = toL (h + 1) (.nd (ka ++ m :: kb) (ca ++ a :: b :: cb)) ∧ Kd fan (h + 1) (.nd (ka ++ kb) (ca ++ joinT a m b :: cb)) := by
  have g1 : (ca ++ a :: b :: cb)[ka.length + 1]! = b := by
    rw [show ca ++ a :: b :: cb = (ca ++ [a]) ++ b :: cb by simp]
    exact get_mid (by simp; omega)
  have g2 : (ca ++ a :: b :: cb).drop (ka.length + 2) = cb := by
    rw [show ca ++ a :: b :: cb = (ca ++ [a]) ++ b :: cb by simp]
    exact drop_mid1 (by simp; omega)
  refine ⟨?_, ?_, ?_, ?_⟩
  · unfold glueT
    simp only [T.keys_nd, T.kids_nd]
    rw [take_mid rfl, drop_mid1 rfl, take_mid hl, get_mid hl, get_mid rfl, g1, g2]
  · rw [toL_mid h hl, toL_pair h hl, toL_join m ha hb]
  · simp only [T.keys_nd, T.kids_nd, List.length_append, List.length_cons]; omega
  · intro x hx
    simp only [T.kids_nd, List.mem_append, List.mem_cons] at hx
    rcases hx with q | q | q
    · exact hkids x (List.mem_append_left _ q)
    · subst q
      have hk : (joinT a m b).keys.length = a.keys.length + b.keys.length + 1 := by
        unfold joinT; simp only [T.keys_nd, List.length_append, List.length_cons]; omega
      refine ⟨Kd_join m ha hb, ?_, ?_⟩
      · rw [hk, hn]; unfold least; omega
      · rw [hk, hn]; unfold least; omega
    · exact hkids x (List.mem_append_right _ q)

theorem fillT_ok {fan h : Nat} {ka kb : List E} {ca cb : List T} {c : T} (hfan : 3 ≤ fan) (h1 : ca.length = ka.length) (h2 : cb.length = kb.length) (hkids : ∀ x ∈ ca ++ cb, Kid fan h x)
    (hc : Kd fan h c) (hn : c.keys.length + 1 = least fan) (hone : 1 ≤ (ka ++ kb).length) :
    toL (h + 1) (fillT (.nd (ka ++ kb) (ca ++ c :: cb)) ka.length (least fan)) = toL (h + 1) (.nd (ka ++ kb) (ca ++ c :: cb)) ∧ Kd fan (h + 1) (fillT (.nd (ka ++ kb) (ca ++ c :: cb)) ka.length (least fan)) ∧
      (ka ++ kb).length ≤ (fillT (.nd (ka ++ kb) (ca ++ c :: cb)) ka.length (least fan)).keys.length + 1 ∧ (fillT (.nd (ka ++ kb) (ca ++ c :: cb)) ka.length (least fan)).keys.length ≤ (ka ++ kb).length := by
  have hci : (ca ++ c :: cb)[ka.length]! = c := get_mid h1
  unfold fillT
  simp only [T.keys_nd, T.kids_nd, hci]
  rcases List.eq_nil_or_concat ka with hka | ⟨ka', m, hka⟩
  · -- nothing on the left
    subst hka
    have hca : ca = [] := List.eq_nil_of_length_eq_zero (by simpa using h1)
    subst hca
    cases kb with
    | nil => simp at hone
    | cons m kb =>
      cases cb with
      | nil => simp at h2
      | cons r cb =>
        obtain ⟨hr1, hr2, hr3⟩ := hkids r (by simp)
        have hkids' : ∀ x ∈ [] ++ cb, Kid fan h x := fun x hx => hkids x (by simp at hx; simp [hx])
        have hl0 : least fan ≠ 0 := by unfold least; omega
        rw [if_neg (by simp)]
        by_cases hbig : least fan < r.keys.length
        · rw [if_pos (by simpa using hbig)]
          obtain ⟨e1, e2, e3⟩ := hr1.part 0 (by omega)
          have hX : (T.nd (r.keys.take 0) (r.kids.take (0 + 1))) = .nd [] (r.kids.take 1) := by simp
          rw [hX] at e1 e2
          have hP := pair_ok (m := m) (m' := r.keys[0]!) (a := c) (b := r) (a' := joinT c m (.nd [] (r.kids.take 1))) (b' := .nd (r.keys.drop 1) (r.kids.drop 1)) (ka := []) (kb := kb) (ca := []) (cb := cb) (fan := fan) (h := h) rfl (by simpa using h2) hkids'
            ⟨Kd_join m hc e2, by unfold joinT; simp only [T.keys_nd, List.length_append, List.length_cons, List.length_nil]; omega, by unfold joinT least at *; simp only [T.keys_nd, List.length_append, List.length_cons, List.length_nil]; omega⟩
            ⟨e3, by simp only [T.keys_nd, List.length_drop]; omega, by simp only [T.keys_nd, List.length_drop]; omega⟩
            (by
              rw [toL_join m hc e2]
              conv => rhs; rw [e1, toL_join _ e2 e3]
              simp)
          refine ⟨?_, ?_, ?_, ?_⟩
          · exact hP.1
          · exact hP.2
          · simp
          · simp
        · rw [if_neg (by simpa using hbig), if_neg (by simp)]
          have hg := glue_ok (m := m) (a := c) (b := r) (ka := []) (kb := kb) (ca := []) (cb := cb) hfan rfl (by simpa using h2) hkids' hc hr1 (by omega)
          have hge : glueT (.nd ([] ++ m :: kb) ([] ++ c :: r :: cb)) ([] : List E).length = _ := hg.1
          rw [hge]
          exact ⟨hg.2.1, hg.2.2, by simp, by simp⟩
  · -- one on the left
    rw [List.concat_eq_append] at hka
    subst hka
    rcases List.eq_nil_or_concat ca with hca | ⟨ca', a, hca⟩
    · subst hca; simp at h1
    rw [List.concat_eq_append] at hca
    subst hca
    have h1' : ca'.length = ka'.length := by simpa using h1
    obtain ⟨ha1, ha2, ha3⟩ := hkids a (by simp)
    have hkids' : ∀ x ∈ ca' ++ cb, Kid fan h x := by
      intro x hx
      refine hkids x ?_
      rcases List.mem_append.1 hx with q | q
      · simp [q]
      · simp [q]
    have hl0 : least fan ≠ 0 := by unfold least; omega
    have eK : ka' ++ [m] ++ kb = ka' ++ m :: kb := by simp
    have eC : ca' ++ [a] ++ c :: cb = ca' ++ a :: c :: cb := by simp
    have hi : (ka' ++ [m]).length - 1 = ka'.length := by simp
    have hgl : (ca' ++ a :: c :: cb)[ka'.length]! = a := get_mid h1'
    have hgm : (ka' ++ m :: kb)[ka'.length]! = m := get_mid rfl
    rw [eK, eC, hi, hgl, hgm]
    by_cases hbig : least fan < a.keys.length
    · rw [if_pos ⟨by simp, hbig⟩]
      obtain ⟨e1, e2, e3⟩ := ha1.part (a.keys.length - 1) (by omega)
      have hX : (T.nd (a.keys.drop (a.keys.length - 1 + 1)) (a.kids.drop (a.keys.length - 1 + 1))) = .nd [] (a.kids.drop (a.keys.length - 1 + 1)) := by
        rw [List.drop_of_length_le (l := a.keys) (by omega)]
      rw [hX] at e1 e3
      have hP := pair_ok (m := m) (m' := a.keys[a.keys.length - 1]!) (a := a) (b := c) (a' := .nd (a.keys.take (a.keys.length - 1)) (a.kids.take (a.keys.length - 1 + 1))) (b' := joinT (.nd [] (a.kids.drop (a.keys.length - 1 + 1))) m c) (ka := ka') (kb := kb) (ca := ca') (cb := cb) (fan := fan) (h := h) h1' h2 hkids'
        ⟨e2, by simp only [T.keys_nd, List.length_take]; omega, by simp only [T.keys_nd, List.length_take]; omega⟩
        ⟨Kd_join m e3 hc, by unfold joinT; simp only [T.keys_nd, List.length_append, List.length_cons, List.length_nil]; omega, by unfold joinT least at *; simp only [T.keys_nd, List.length_append, List.length_cons, List.length_nil]; omega⟩
        (by
          rw [toL_join m e3 hc]
          conv => rhs; rw [e1, toL_join _ e2 e3]
          simp)
      have hk1 : (ka' ++ m :: kb).set ka'.length a.keys[a.keys.length - 1]! = ka' ++ a.keys[a.keys.length - 1]! :: kb := set_mid rfl
      have hc1 : ∀ x y, ((ca' ++ a :: c :: cb).set ka'.length x).set (ka' ++ [m]).length y = ca' ++ x :: y :: cb := by
        intro x y
        rw [set_mid h1', show ca' ++ x :: c :: cb = (ca' ++ [x]) ++ c :: cb by simp, set_mid (by simp; omega)]
        simp
      rw [hk1, hc1]
      refine ⟨?_, ?_, ?_, ?_⟩
      · exact hP.1
      · exact hP.2
      · simp
      · simp
    · rw [if_neg (by simp [hbig])]
      have hgr : ∀ r cb', cb = r :: cb' → (ca' ++ a :: c :: cb)[(ka' ++ [m]).length + 1]! = r := by
        rintro r cb' rfl
        rw [show ca' ++ a :: c :: r :: cb' = (ca' ++ [a, c]) ++ r :: cb' by simp]
        exact get_mid (by simp; omega)
      by_cases hbig2 : (ka' ++ [m]).length + 1 < (ca' ++ a :: c :: cb).length ∧ least fan < (ca' ++ a :: c :: cb)[(ka' ++ [m]).length + 1]!.keys.length
      · rw [if_pos hbig2]
        cases cb with
        | nil => exfalso; have := hbig2.1; simp only [List.length_append, List.length_cons, List.length_nil] at this; omega
        | cons r cb =>
          have hg := hgr r cb rfl
          have hb2 := hbig2.2
          rw [hg] at hb2 ⊢
          cases kb with
          | nil => simp at h2
          | cons m2 kb =>
            obtain ⟨hr1, hr2, hr3⟩ := hkids r (by simp)
            obtain ⟨e1, e2, e3⟩ := hr1.part 0 (by omega)
            have hX : (T.nd (r.keys.take 0) (r.kids.take (0 + 1))) = .nd [] (r.kids.take 1) := by simp
            rw [hX] at e1 e2
            have hkids2 : ∀ x ∈ (ca' ++ [a]) ++ cb, Kid fan h x := fun x hx => hkids x (by rcases List.mem_append.1 hx with q | q; exact List.mem_append_left _ q; exact List.mem_append_right _ (by simp [q]))
            have hP := pair_ok (m := m2) (m' := r.keys[0]!) (a := c) (b := r) (a' := joinT c m2 (.nd [] (r.kids.take 1))) (b' := .nd (r.keys.drop 1) (r.kids.drop 1)) (ka := ka' ++ [m]) (kb := kb) (ca := ca' ++ [a]) (cb := cb) (fan := fan) (h := h) (by simpa using h1') (by simpa using h2) hkids2
              ⟨Kd_join m2 hc e2, by unfold joinT; simp only [T.keys_nd, List.length_append, List.length_cons, List.length_nil]; omega, by unfold joinT least at *; simp only [T.keys_nd, List.length_append, List.length_cons, List.length_nil]; omega⟩
              ⟨e3, by simp only [T.keys_nd, List.length_drop]; omega, by simp only [T.keys_nd, List.length_drop]; omega⟩
              (by
                rw [toL_join m2 hc e2]
                conv => rhs; rw [e1, toL_join _ e2 e3]
                simp)
            have eK2 : ka' ++ m :: m2 :: kb = (ka' ++ [m]) ++ m2 :: kb := by simp
            have eC2 : ca' ++ a :: c :: r :: cb = (ca' ++ [a]) ++ c :: r :: cb := by simp
            have hk2 : ((ka' ++ [m]) ++ m2 :: kb)[(ka' ++ [m]).length]! = m2 := get_mid rfl
            have hk1 : ((ka' ++ [m]) ++ m2 :: kb).set (ka' ++ [m]).length r.keys[0]! = (ka' ++ [m]) ++ r.keys[0]! :: kb := set_mid rfl
            have hlca : (ca' ++ [a]).length = (ka' ++ [m]).length := by simpa using h1'
            have hc1 : ∀ x y, (((ca' ++ [a]) ++ c :: r :: cb).set (ka' ++ [m]).length x).set ((ka' ++ [m]).length + 1) y = (ca' ++ [a]) ++ x :: y :: cb := by
              intro x y
              rw [set_mid hlca, show ca' ++ [a] ++ x :: r :: cb = (ca' ++ [a] ++ [x]) ++ r :: cb by simp, set_mid (by simp; omega)]
              simp
            rw [eK2, eC2, hk2, hk1, hc1]
            refine ⟨?_, ?_, ?_, ?_⟩
            · exact hP.1
            · exact hP.2
            · simp
            · simp
      · rw [if_neg hbig2, if_pos (by simp)]
        have hg := glue_ok (m := m) (a := a) (b := c) (ka := ka') (kb := kb) (ca := ca') (cb := cb) hfan h1' h2 hkids' ha1 hc (by omega)
        rw [hg.1]
        refine ⟨hg.2.1, hg.2.2, ?_, ?_⟩
        · simp; omega
        · simp

end Go.Proofs.Ytpaffpiaoanegaa
