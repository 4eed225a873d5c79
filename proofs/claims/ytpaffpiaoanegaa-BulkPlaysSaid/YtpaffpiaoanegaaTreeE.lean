/-
  What is said here: taking a key out of a tree, from its root on; no program in sight.
  No condition.
-/
import Derived.Test.YtpaffpiaoanegaaTreeD
set_option linter.unusedVariables false
set_option linter.unusedSimpArgs false
namespace Go.Proofs.Ytpaffpiaoanegaa

theorem delL_one {k : E} {key : ByteArray} (h : k.1 = key) : delL [k] key = [] := by
  have hb : below [k] key = 0 := by rw [below_cons, if_neg (by rw [h]; exact ltB_irrefl _)]
  unfold delL
  rw [here_one h, hb]
  rfl

theorem delL_last {I : List E} {e : E} (hs : Sorted (I ++ [e])) : delL (I ++ [e]) e.1 = I := by
  have := delL_mid (A := I) (M := [e]) (B := []) (key := e.1) (fun x hx => (List.pairwise_append.1 hs).2.2 x hx e (by simp)) (by simp)
  rw [delL_one rfl] at this
  simpa using this

/-- What is behind the call on the child. -/
theorem dropAt_ok {fan h : Nat} {t : T} {ka kb : List E} {ca cb : List T} {c c' : T} {b : Bool} (hfan : 3 ≤ fan) (ht : t.kids = ca ++ c :: cb) (h1 : ca.length = ka.length) (h2 : cb.length = kb.length) (hkids : ∀ x ∈ ca ++ cb, Kid fan h x)
    (hk' : Kd fan h c') (hlo : least fan ≤ c'.keys.length + 1) (hhi : c'.keys.length < fan) (hone : 1 ≤ (ka ++ kb).length) :
    (dropAt (least fan) t ka.length (ka ++ kb) (c', b)).2 = b ∧
    toL (h + 1) (dropAt (least fan) t ka.length (ka ++ kb) (c', b)).1 = pre ka (ca.map (toL h)) ++ (toL h c' ++ post kb (cb.map (toL h))) ∧ Kd fan (h + 1) (dropAt (least fan) t ka.length (ka ++ kb) (c', b)).1 ∧
    (ka ++ kb).length ≤ (dropAt (least fan) t ka.length (ka ++ kb) (c', b)).1.keys.length + 1 ∧ (dropAt (least fan) t ka.length (ka ++ kb) (c', b)).1.keys.length ≤ (ka ++ kb).length := by
  refine ⟨rfl, ?_⟩
  have hset : T.nd (ka ++ kb) (t.kids.set ka.length c') = .nd (ka ++ kb) (ca ++ c' :: cb) := by rw [ht, set_mid h1]
  unfold dropAt
  simp only [hset]
  split
  · rename_i hlt
    obtain ⟨f1, f2, f3, f4⟩ := fillT_ok (h := h) (ka := ka) (kb := kb) (ca := ca) (cb := cb) (c := c') hfan h1 h2 hkids hk' (by omega) hone
    exact ⟨f1.trans (toL_mid h h1), f2, f3, f4⟩
  · rename_i hlt
    refine ⟨toL_mid h h1, ⟨?_, ?_⟩, ?_, ?_⟩
    · simp only [T.keys_nd, T.kids_nd, List.length_append, List.length_cons]; omega
    · intro x hx
      simp only [T.kids_nd, List.mem_append, List.mem_cons] at hx
      rcases hx with q | q | q
      · exact hkids x (List.mem_append_left _ q)
      · subst q; exact ⟨hk', by omega, hhi⟩
      · exact hkids x (List.mem_append_right _ q)
    · rw [T.keys_nd]; omega
    · rw [T.keys_nd]; omega

theorem dropT_ok {fan : Nat} (hfan : 3 ≤ fan) : ∀ (h : Nat) (key : ByteArray) (t : T), Kd fan h t → Sorted (toL h t) → (0 < h → 1 ≤ t.keys.length) → t.keys.length < fan →
    toL h (dropT (least fan) h key t).1 = delL (toL h t) key ∧ (dropT (least fan) h key t).2 = here (toL h t) key ∧ Kd fan h (dropT (least fan) h key t).1 ∧
      t.keys.length ≤ (dropT (least fan) h key t).1.keys.length + 1 ∧ (dropT (least fan) h key t).1.keys.length ≤ t.keys.length := by
  intro h
  induction h with
  | zero =>
    intro key t hk hs h1 h2
    rw [dropT]
    by_cases hh : here t.keys key = true
    · rw [if_pos hh]
      have hle := below_le t.keys key
      refine ⟨?_, ?_, hk, ?_, ?_⟩
      · show _ = delL t.keys key
        unfold delL; rw [if_pos hh]; rfl
      · show true = here t.keys key
        exact hh.symm
      · simp only [T.keys_nd, List.length_append, List.length_take, List.length_drop]; omega
      · simp only [T.keys_nd, List.length_append, List.length_take, List.length_drop]; omega
    · rw [if_neg hh]
      refine ⟨?_, ?_, hk, by simp, by simp⟩
      · show t.keys = delL t.keys key
        unfold delL; rw [if_neg hh]
      · show false = here t.keys key
        simp at hh; exact hh.symm
  | succ h ih =>
    intro key t hk hs h1 hn
    obtain ⟨ka, kb, ca, c, cb, ht, e1, e2, e3, e4, e5, e6, e7, e8, e9⟩ := hk.at_ hs key
    have hone := h1 (by omega)
    have hkl : t.keys = ka ++ kb := by rw [ht]; rfl
    have hcl : t.kids = ca ++ c :: cb := by rw [ht]; rfl
    have hkids : ∀ x ∈ ca ++ cb, Kid fan h x := by
      intro x hx
      refine hk.2 x ?_
      rw [hcl]
      rcases List.mem_append.1 hx with q | q
      · simp [q]
      · simp [q]
    have hl1 : 1 ≤ c.keys.length := by unfold least at e8; omega
    have hs' := hs
    rw [e4] at hs'
    have hcs : Sorted (toL h c) := (List.pairwise_append.1 (List.pairwise_append.1 hs').2.1).1
    have hps : Sorted (post kb (cb.map (toL h))) := (List.pairwise_append.1 (List.pairwise_append.1 hs').2.1).2.1
    have hc0 : t.kids[below t.keys key]! = c := by rw [← e1, hcl]; exact get_mid (by omega)
    rw [dropT, hc0, ← e1]
    by_cases hh : here t.keys key = true
    · rw [if_pos hh]
      cases kb with
      | nil =>
        exfalso
        obtain ⟨A, k, B, q1, q2, q3⟩ := kd_of_here hh
        have := congrArg List.length q1
        rw [hkl] at this e1
        simp only [List.append_nil] at this e1
        rw [hkl, List.append_nil] at q2
        simp only [List.length_append, List.length_cons] at this
        omega
      | cons k kb =>
        have hkk : k.1 = key := by
          have := here_keys (ka := ka) (kb := k :: kb) (key := key) (by rw [← hkl]; exact e1)
          rw [← hkl, hh] at this
          simpa using this.symm
        obtain ⟨I, hI⟩ := lastT_ok hfan h c e7 hl1
        obtain ⟨i1, i2, i3, i4, i5⟩ := ih (lastT h c).1 c e7 hcs (fun _ => hl1) e9
        have hset : t.keys.set ka.length (lastT h c) = ka ++ lastT h c :: kb := by rw [hkl]; exact set_mid rfl
        rw [hset]
        generalize hr : dropT (least fan) h (lastT h c).1 c = r at i1 i2 i3 i4 i5
        obtain ⟨c', b⟩ := r
        simp only at i1 i2 i3 i4 i5
        have hkl2 : t.keys.length = (ka ++ lastT h c :: kb).length := by rw [hkl]; simp
        obtain ⟨d0, d1, d2, d3, d4⟩ := dropAt_ok (t := t) (ka := ka) (kb := lastT h c :: kb) (ca := ca) (cb := cb) (c := c) (c' := c') (b := b) hfan hcl (by omega) (by simpa using e3) hkids i3 (by omega) (by omega) (by simp; omega)
        have hup := here_up hk hs hh
        rw [hI, delL_last (by rw [← hI]; exact hcs)] at i1
        refine ⟨?_, ?_, d2, by rw [hkl2]; exact d3, by rw [hkl2]; exact d4⟩
        · rw [d1, i1, e4, hI]
          rw [hI] at hs'
          have hs2 : Sorted ((pre ka (ca.map (toL h)) ++ (I ++ [lastT h c])) ++ k :: inter kb (cb.map (toL h))) := by simpa [post] using hs'
          obtain ⟨_, s2, s3⟩ := List.pairwise_append.1 hs2
          have := delL_mid (A := pre ka (ca.map (toL h)) ++ (I ++ [lastT h c])) (M := [k]) (B := inter kb (cb.map (toL h))) (key := key) (fun x hx => by rw [← hkk]; exact s3 x hx k (by simp)) (fun x hx => by rw [← hkk]; exact (List.pairwise_cons.1 s2).1 x hx)
          rw [delL_one hkk] at this
          simpa [post] using this.symm
        · rw [d0, i2, hup]
          exact (here_iff hcs _).2 ⟨lastT h c, by rw [hI]; simp, rfl⟩
    · rw [if_neg hh]
      have hgt := post_gt hps e6 (fun q => hh (by
        rw [hkl, here_keys (by rw [← hkl]; exact e1), decide_eq_true_eq]; exact q))
      obtain ⟨i1, i2, i3, i4, i5⟩ := ih key c e7 hcs (fun _ => hl1) e9
      generalize hr : dropT (least fan) h key c = r at i1 i2 i3 i4 i5
      obtain ⟨c', b⟩ := r
      simp only at i1 i2 i3 i4 i5
      obtain ⟨d0, d1, d2, d3, d4⟩ := dropAt_ok (t := t) (ka := ka) (kb := kb) (ca := ca) (cb := cb) (c := c) (c' := c') (b := b) hfan hcl (by omega) e3 hkids i3 (by omega) (by omega) (by rw [← hkl]; exact hone)
      rw [hkl]
      refine ⟨?_, ?_, d2, d3, d4⟩
      · rw [d1, i1, e4, ← List.append_assoc, ← List.append_assoc]
        exact (delL_mid e5 hgt).symm
      · rw [d0, i2, e4, ← List.append_assoc, here_mid e5 hgt]

/-! ## From the root on -/

/-- A whole tree: its root, and how many nodes stand one beneath another below it. -/
structure Root (fan h : Nat) (t : T) : Prop where
  kd : Kd fan h t
  lt : t.keys.length < fan
  one : 0 < h → 1 ≤ t.keys.length
  sorted : Sorted (toL h t)

/-- Put, with a new root if the old one has too many keys. -/
def rootPut (fan h : Nat) (t : T) (e : E) : T × Nat :=
  if (putT fan h t e).1.keys.length = fan then (splitT (.nd [] [(putT fan h t e).1]) 0, h + 1) else ((putT fan h t e).1, h)

theorem rootPut_ok {fan h : Nat} {t : T} (hfan : 3 ≤ fan) (hr : Root fan h t) (e : E) :
    toL (rootPut fan h t e).2 (rootPut fan h t e).1 = putL (toL h t) e ∧ Root fan (rootPut fan h t e).2 (rootPut fan h t e).1 := by
  obtain ⟨p1, p2, p3, p4, p5⟩ := putT_ok hfan e h t hr.kd hr.sorted hr.lt
  have hlt := hr.lt
  unfold rootPut
  split
  · rename_i hf
    obtain ⟨s1, s2, s3⟩ := splitT_ok (h := h) (ka := []) (kb := []) (ca := []) (cb := []) (c := (putT fan h t e).1) hfan rfl rfl (by simp) p3 hf
    have hs1 : toL (h + 1) (splitT (.nd [] [(putT fan h t e).1]) 0) = putL (toL h t) e := by
      rw [← p1]
      refine s1.trans ?_
      simp [toL, inter]
    exact ⟨hs1, s2, by rw [show (splitT (.nd [] [(putT fan h t e).1]) 0).keys.length = 0 + 1 from s3]; omega, fun _ => by rw [show (splitT (.nd [] [(putT fan h t e).1]) 0).keys.length = 0 + 1 from s3]; omega, by show Sorted (toL (h + 1) (splitT (.nd [] [(putT fan h t e).1]) 0)); rw [hs1]; exact putL_sorted hr.sorted e⟩
  · rename_i hf
    exact ⟨p1, p3, by show (putT fan h t e).1.keys.length < fan; omega, fun hh => by have := hr.one hh; show 1 ≤ (putT fan h t e).1.keys.length; omega, by show Sorted (toL h (putT fan h t e).1); rw [p1]; exact putL_sorted hr.sorted e⟩

/-- Delete, with the only child as the new root if the old one has no key. -/
def rootDrop (fan : Nat) : Nat → T → ByteArray → T × Nat
  | 0, t, key => ((dropT (least fan) 0 key t).1, 0)
  | h + 1, t, key => if (dropT (least fan) (h + 1) key t).1.keys.length = 0 then ((dropT (least fan) (h + 1) key t).1.kids[0]!, h) else ((dropT (least fan) (h + 1) key t).1, h + 1)

theorem rootDrop_ok {fan h : Nat} {t : T} (hfan : 3 ≤ fan) (hr : Root fan h t) (key : ByteArray) :
    toL (rootDrop fan h t key).2 (rootDrop fan h t key).1 = delL (toL h t) key ∧ Root fan (rootDrop fan h t key).2 (rootDrop fan h t key).1 := by
  obtain ⟨p1, p2, p3, p4, p5⟩ := dropT_ok hfan h key t hr.kd hr.sorted hr.one hr.lt
  have hlt := hr.lt
  cases h with
  | zero =>
    rw [rootDrop]
    exact ⟨p1, p3, by show (dropT (least fan) 0 key t).1.keys.length < fan; omega, fun hh => absurd (show 0 < 0 from hh) (Nat.lt_irrefl 0), by show Sorted (toL 0 (dropT (least fan) 0 key t).1); rw [p1]; exact delL_sorted hr.sorted key⟩
  | succ h =>
    rw [rootDrop]
    generalize hd : (dropT (least fan) (h + 1) key t).1 = d at p1 p3 p4 p5 ⊢
    have hsd : Sorted (toL (h + 1) d) := by rw [p1]; exact delL_sorted hr.sorted key
    split
    · rename_i h0
      have hkids := p3.1
      rw [h0] at hkids
      obtain ⟨ks, cs⟩ := d
      simp only [T.keys_nd, T.kids_nd] at h0 hkids p3 ⊢
      obtain rfl : ks = [] := List.eq_nil_of_length_eq_zero h0
      match cs, hkids with
      | [c], _ =>
        obtain ⟨c1, c2, c3⟩ := p3.2 c (by simp)
        have hc : toL (h + 1) (.nd [] [c]) = toL h c := by simp [toL, inter]
        rw [hc] at p1 hsd
        refine ⟨p1, c1, c3, fun _ => ?_, hsd⟩
        show 1 ≤ c.keys.length
        unfold least at c2; omega
    · rename_i h0
      exact ⟨p1, p3, by show d.keys.length < fan; omega, fun _ => by show 1 ≤ d.keys.length; omega, hsd⟩

end Go.Proofs.Ytpaffpiaoanegaa
