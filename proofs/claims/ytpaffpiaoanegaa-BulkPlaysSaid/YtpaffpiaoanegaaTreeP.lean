/-
  What is said here: putting a key into a tree: the entries are those of the list in which it is put; the tree stays as it must be; no program in sight.
  No condition.
-/
import Derived.Test.YtpaffpiaoanegaaTreeT
set_option linter.unusedVariables false
set_option linter.unusedSimpArgs false
namespace Go.Proofs.Ytpaffpiaoanegaa

/-- The i-th child is parted in two. -/
def splitT (t : T) (i : Nat) : T :=
  .nd (t.keys.take i ++ (t.kids[i]!.keys[t.kids[i]!.keys.length / 2]!) :: t.keys.drop i)
    (t.kids.take i ++ .nd (t.kids[i]!.keys.take (t.kids[i]!.keys.length / 2)) (t.kids[i]!.kids.take (t.kids[i]!.keys.length / 2 + 1)) ::
      .nd (t.kids[i]!.keys.drop (t.kids[i]!.keys.length / 2 + 1)) (t.kids[i]!.kids.drop (t.kids[i]!.keys.length / 2 + 1)) :: t.kids.drop (i + 1))

/-- The key put beneath a node, which may have one key too many then; was it new? -/
def putT (fan : Nat) : Nat → T → E → T × Bool
  | 0, t, e => if here t.keys e.1 then (.nd (t.keys.set (below t.keys e.1) e) t.kids, false) else (.nd (t.keys.take (below t.keys e.1) ++ e :: t.keys.drop (below t.keys e.1)) t.kids, true)
  | h + 1, t, e => if here t.keys e.1 then (.nd (t.keys.set (below t.keys e.1) e) t.kids, false) else
      (if (putT fan h t.kids[below t.keys e.1]! e).1.keys.length = fan then splitT (.nd t.keys (t.kids.set (below t.keys e.1) (putT fan h t.kids[below t.keys e.1]! e).1)) (below t.keys e.1) else .nd t.keys (t.kids.set (below t.keys e.1) (putT fan h t.kids[below t.keys e.1]! e).1),
       (putT fan h t.kids[below t.keys e.1]! e).2)

theorem get_mid {α : Type} [Inhabited α] {a : List α} {x : α} {b : List α} {i : Nat} (h : a.length = i) : (a ++ x :: b)[i]! = x := by
  subst h; simp
theorem set_mid {α : Type} {a : List α} {x y : α} {b : List α} {i : Nat} (h : a.length = i) : (a ++ x :: b).set i y = a ++ y :: b := by
  subst h; simp
theorem take_mid {α : Type} {a b : List α} {i : Nat} (h : a.length = i) : (a ++ b).take i = a := by subst h; simp
theorem drop_mid {α : Type} {a b : List α} {i : Nat} (h : a.length = i) : (a ++ b).drop i = b := by subst h; simp
theorem drop_mid1 {α : Type} {a b : List α} {x : α} {i : Nat} (h : a.length = i) : (a ++ x :: b).drop (i + 1) = b := by
  subst h
  rw [List.drop_append, List.drop_of_length_le (by omega), show a.length + 1 - a.length = 1 by omega]
  rfl

theorem kd_of_here {l : List E} {key : ByteArray} (h : here l key = true) : ∃ A k B, l = A ++ k :: B ∧ A.length = below l key ∧ k.1 = key := by
  unfold here at h
  rw [decide_eq_true_eq] at h
  cases hb : l[below l key]? with
  | none => rw [hb] at h; cases h
  | some k =>
    rw [hb] at h
    obtain ⟨hi, hk⟩ := List.getElem?_eq_some_iff.1 hb
    refine ⟨l.take (below l key), k, l.drop (below l key + 1), ?_, ?_, by simpa using h⟩
    · rw [← hk, List.getElem_cons_drop, List.take_append_drop]
    · rw [List.length_take]; omega

theorem putL_one {k e : E} (h : k.1 = e.1) : putL [k] e = [e] := by
  have hb : below [k] e.1 = 0 := by rw [below_cons, if_neg (by rw [h]; exact ltB_irrefl _)]
  unfold putL here
  rw [hb]
  simp [h]
theorem here_one {k : E} {key : ByteArray} (h : k.1 = key) : here [k] key = true := by
  have hb : below [k] key = 0 := by rw [below_cons, if_neg (by rw [h]; exact ltB_irrefl _)]
  unfold here
  rw [hb]
  simp [h]

/-- Where the key is among the node's own, it is found beneath it. -/
theorem here_up {fan h : Nat} {t : T} (hk : Kd fan h t) (hs : Sorted (toL h t)) {key : ByteArray} (hh : here t.keys key = true) : here (toL h t) key = true := by
  obtain ⟨e, he, h1⟩ := (here_iff (hs.sublist hk.keys) key).1 hh
  exact (here_iff hs key).2 ⟨e, hk.keys.subset he, h1⟩

/-- One of the node's own keys: what stands ahead of it, and behind. -/
theorem Kd.own {fan h : Nat} {t : T} (hk : Kd fan h t) {A : List E} {k : E} {B : List E} (ht : t.keys = A ++ k :: B) :
    ∃ P S, toL h t = P ++ k :: S ∧ ∀ k', toL h (.nd (A ++ k' :: B) t.kids) = P ++ k' :: S := by
  cases h with
  | zero => exact ⟨A, B, ht, fun k' => rfl⟩
  | succ h =>
    obtain ⟨ka, kb, ca, c, cb, h0, h1, h2, h3⟩ := T.cut (t := t) (i := A.length) hk.1 (by rw [ht]; simp)
    have hka : ka = A ∧ kb = k :: B := by
      rw [h0] at ht
      exact List.append_inj ht h1
    obtain ⟨rfl, rfl⟩ := hka
    refine ⟨pre ka (ca.map (toL h)) ++ toL h c, inter B (cb.map (toL h)), ?_, ?_⟩
    · rw [h0, toL_mid h (by omega)]
      simp [post]
    · intro k'
      rw [h0, T.kids_nd, toL_mid h (by omega)]
      simp [post]

theorem Kd.set {fan h : Nat} {t : T} (hk : Kd fan h t) {ks : List E} (hl : ks.length = t.keys.length) : Kd fan h (.nd ks t.kids) := by
  cases h with
  | zero => exact hk
  | succ h => exact ⟨by rw [T.kids_nd, T.keys_nd, hl]; exact hk.1, hk.2⟩

/-- A node parted at one of its keys. -/
theorem Kd.part {fan h : Nat} {c : T} (hk : Kd fan h c) (i : Nat) (hi : i < c.keys.length) :
    c = joinT (.nd (c.keys.take i) (c.kids.take (i + 1))) c.keys[i]! (.nd (c.keys.drop (i + 1)) (c.kids.drop (i + 1))) ∧
      Kd fan h (.nd (c.keys.take i) (c.kids.take (i + 1))) ∧ Kd fan h (.nd (c.keys.drop (i + 1)) (c.kids.drop (i + 1))) := by
  refine ⟨?_, ?_⟩
  · unfold joinT
    simp only [T.keys_nd, T.kids_nd]
    rw [List.take_append_drop, getElem!_pos c.keys i hi, List.getElem_cons_drop, List.take_append_drop, T.eta]
  · cases h with
    | zero => rw [show c.kids = [] from hk]; exact ⟨rfl, rfl⟩
    | succ h =>
      obtain ⟨h1, h2⟩ := hk
      refine ⟨⟨?_, fun x hx => h2 x (List.mem_of_mem_take hx)⟩, ⟨?_, fun x hx => h2 x (List.mem_of_mem_drop hx)⟩⟩
      · simp only [T.keys_nd, T.kids_nd, List.length_take]; omega
      · simp only [T.keys_nd, T.kids_nd, List.length_drop]; omega

/-- A child replaced by two with a key between. -/
theorem splitT_ok {fan h : Nat} {ka kb : List E} {ca cb : List T} {c : T} (hfan : 3 ≤ fan) (h1 : ca.length = ka.length) (h2 : cb.length = kb.length)
    (hkids : ∀ x ∈ ca ++ cb, Kd fan h x ∧ least fan ≤ x.keys.length ∧ x.keys.length < fan) (hc : Kd fan h c) (hn : c.keys.length = fan) :
    toL (h + 1) (splitT (.nd (ka ++ kb) (ca ++ c :: cb)) ka.length) = toL (h + 1) (.nd (ka ++ kb) (ca ++ c :: cb)) ∧ Kd fan (h + 1) (splitT (.nd (ka ++ kb) (ca ++ c :: cb)) ka.length) ∧
      (splitT (.nd (ka ++ kb) (ca ++ c :: cb)) ka.length).keys.length = (ka ++ kb).length + 1 := by
  have hhalf : c.keys.length / 2 < c.keys.length := by omega
  obtain ⟨e1, e2, e3⟩ := hc.part (c.keys.length / 2) hhalf
  have hsp : splitT (.nd (ka ++ kb) (ca ++ c :: cb)) ka.length = .nd (ka ++ c.keys[c.keys.length / 2]! :: kb) (ca ++ (.nd (c.keys.take (c.keys.length / 2)) (c.kids.take (c.keys.length / 2 + 1))) :: (.nd (c.keys.drop (c.keys.length / 2 + 1)) (c.kids.drop (c.keys.length / 2 + 1))) :: cb) := by
    unfold splitT
    simp only [T.keys_nd, T.kids_nd, get_mid h1, take_mid (a := ka) (b := kb) rfl, drop_mid (a := ka) (b := kb) rfl, take_mid (a := ca) (b := c :: cb) h1, drop_mid1 (a := ca) (x := c) (b := cb) h1]
  rw [hsp]
  refine ⟨?_, ⟨?_, ?_⟩, ?_⟩
  · rw [toL_mid h (by omega), toL_mid (kb := kb) h h1]
    conv => rhs; rw [e1, toL_join _ e2 e3]
    rw [post, List.map_cons]
    generalize toL h (T.nd (c.keys.drop (c.keys.length / 2 + 1)) (c.kids.drop (c.keys.length / 2 + 1))) = R
    have : inter kb (R :: cb.map (toL h)) = R ++ post kb (cb.map (toL h)) := inter_mid kb R _ [] [] rfl
    rw [this]
    simp
  · simp only [T.keys_nd, T.kids_nd, List.length_append, List.length_cons]; omega
  · intro x hx
    simp only [T.kids_nd, List.mem_append, List.mem_cons] at hx
    rcases hx with q | q | q | q
    · exact hkids x (List.mem_append_left _ q)
    · subst q
      refine ⟨e2, ?_, ?_⟩
      · rw [T.keys_nd, List.length_take, hn]; unfold least; omega
      · rw [T.keys_nd, List.length_take, hn]; omega
    · subst q
      refine ⟨e3, ?_, ?_⟩
      · rw [T.keys_nd, List.length_drop, hn]; unfold least; omega
      · rw [T.keys_nd, List.length_drop, hn]; omega
    · exact hkids x (List.mem_append_right _ q)
  · simp only [T.keys_nd, List.length_append, List.length_cons]; omega

theorem putT_ok {fan : Nat} (hfan : 3 ≤ fan) (e : E) : ∀ (h : Nat) (t : T), Kd fan h t → Sorted (toL h t) → t.keys.length < fan →
    toL h (putT fan h t e).1 = putL (toL h t) e ∧ (putT fan h t e).2 = !here (toL h t) e.1 ∧ Kd fan h (putT fan h t e).1 ∧ t.keys.length ≤ (putT fan h t e).1.keys.length ∧ (putT fan h t e).1.keys.length ≤ t.keys.length + 1 := by
  -- the key is among the node's own
  have found : ∀ (h : Nat) (t : T), Kd fan h t → Sorted (toL h t) → here t.keys e.1 = true →
      toL h (.nd (t.keys.set (below t.keys e.1) e) t.kids) = putL (toL h t) e ∧ false = !here (toL h t) e.1 ∧ Kd fan h (.nd (t.keys.set (below t.keys e.1) e) t.kids) := by
    intro h t hk hs hh
    obtain ⟨A, k, B, hl, hA, hke⟩ := kd_of_here hh
    obtain ⟨P, S, h1, h2⟩ := hk.own hl
    have hset : t.keys.set (below t.keys e.1) e = A ++ e :: B := by
      rw [← hA, hl]; exact set_mid rfl
    refine ⟨?_, ?_, hk.set (by simp)⟩
    · rw [show t.keys.set (below t.keys e.1) e = A ++ e :: B from hset, h2 e, h1]
      rw [h1] at hs
      obtain ⟨s1, s2, s3⟩ := List.pairwise_append.1 hs
      have := putL_mid (A := P) (M := [k]) (B := S) (e := e) (fun x hx => by rw [← hke]; exact s3 x hx k (by simp)) (fun x hx => by rw [← hke]; exact (List.pairwise_cons.1 s2).1 x hx)
      rw [putL_one hke] at this
      simpa using this.symm
    · rw [here_up hk hs hh]; rfl
  intro h
  induction h with
  | zero =>
    intro t hk hs hl
    by_cases hh : here t.keys e.1 = true
    · obtain ⟨f1, f2, f3⟩ := found 0 t hk hs hh
      rw [putT, if_pos hh]
      exact ⟨f1, f2, f3, by simp, by simp⟩
    · rw [putT, if_neg hh]
      refine ⟨?_, ?_, hk, ?_, ?_⟩
      · show _ = putL t.keys e
        unfold putL
        rw [if_neg hh]; rfl
      · show true = !here t.keys e.1
        simp at hh; rw [hh]; rfl
      · have := below_le t.keys e.1
        simp only [T.keys_nd, List.length_append, List.length_take, List.length_cons, List.length_drop]; omega
      · have := below_le t.keys e.1
        simp only [T.keys_nd, List.length_append, List.length_take, List.length_cons, List.length_drop]; omega
  | succ h ih =>
    intro t hk hs hl
    by_cases hh : here t.keys e.1 = true
    · obtain ⟨f1, f2, f3⟩ := found (h + 1) t hk hs hh
      rw [putT, if_pos hh]
      exact ⟨f1, f2, f3, by simp, by simp⟩
    · obtain ⟨ka, kb, ca, c, cb, ht, h1, h2, h3, h4, h5, h6, h7, h8, h9⟩ := hk.at_ hs e.1
      have hbl : below t.keys e.1 = ka.length := h1.symm
      have hkids : ∀ x ∈ ca ++ cb, Kd fan h x ∧ least fan ≤ x.keys.length ∧ x.keys.length < fan := by
        intro x hx
        refine hk.2 x ?_
        rw [ht, T.kids_nd]
        rcases List.mem_append.1 hx with q | q
        · simp [q]
        · simp [q]
      have hc0 : t.kids[below t.keys e.1]! = c := by rw [hbl, ht, T.kids_nd]; exact get_mid (by omega)
      have hcs : Sorted (toL h c) := by
        rw [h4] at hs
        exact (List.pairwise_append.1 (List.pairwise_append.1 hs).2.1).1
      have hps : Sorted (post kb (cb.map (toL h))) := by
        rw [h4] at hs
        exact (List.pairwise_append.1 (List.pairwise_append.1 hs).2.1).2.1
      have hgt := post_gt hps h6 (fun q => hh (by
        rw [ht] at hh hbl ⊢
        simp only [T.keys_nd] at hh hbl ⊢
        rw [here_keys hbl.symm, decide_eq_true_eq]; exact q))
      obtain ⟨i1, i2, i3, i4, i5⟩ := ih c h7 hcs h9
      rw [putT, if_neg hh, hc0]
      generalize hr : putT fan h c e = r at i1 i2 i3 i4 i5
      obtain ⟨c', b⟩ := r
      simp only at i1 i2 i3 i4 i5 ⊢
      have hset : T.nd t.keys (t.kids.set (below t.keys e.1) c') = .nd (ka ++ kb) (ca ++ c' :: cb) := by
        rw [hbl, ht, T.keys_nd, T.kids_nd, set_mid (by omega)]
      rw [hset, hbl]
      have hL : toL (h + 1) (.nd (ka ++ kb) (ca ++ c' :: cb)) = putL (toL (h + 1) t) e := by
        rw [toL_mid h (by omega), h4, i1, ← List.append_assoc, ← List.append_assoc]
        exact (putL_mid h5 hgt).symm
      have hH : b = !here (toL (h + 1) t) e.1 := by
        rw [i2, h4, ← List.append_assoc, here_mid h5 hgt]
      have hkl : t.keys.length = (ka ++ kb).length := by rw [ht, T.keys_nd]
      split
      · rename_i hf
        obtain ⟨s1, s2, s3⟩ := splitT_ok (h := h) (ka := ka) (kb := kb) (ca := ca) (cb := cb) (c := c') hfan (by omega) h3 hkids i3 hf
        exact ⟨s1.trans hL, hH, s2, by omega, by omega⟩
      · rename_i hf
        refine ⟨hL, hH, ⟨?_, ?_⟩, ?_, ?_⟩
        · simp only [T.keys_nd, T.kids_nd, List.length_append, List.length_cons]; omega
        · intro x hx
          simp only [T.kids_nd, List.mem_append, List.mem_cons] at hx
          rcases hx with q | q | q
          · exact hkids x (List.mem_append_left _ q)
          · subst q; exact ⟨i3, by omega, by omega⟩
          · exact hkids x (List.mem_append_right _ q)
        · rw [T.keys_nd, hkl]; exact Nat.le_refl _
        · rw [T.keys_nd, hkl]; omega

end Go.Proofs.Ytpaffpiaoanegaa
