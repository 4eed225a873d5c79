/-
  What is proved here: a region that draws its order and whose last operation (a store) waits for all others: the others may be walked as if the last did nothing, and the last one at the end; for any program.
  No condition: each lemma names its own.
-/
import Derived.Test.YtipfjjcokajjjaaDoorKit
import Derived.Deep.RegionHeld3
set_option linter.unusedVariables false
set_option linter.unusedSimpArgs false
namespace Go.Proofs.YtipfjjcokajjjaaDoor
open Go.RowKit

section
variable {P : Program} {ops : Array Oper} {Q : Exit → Act → World → Prop} {md : Region.Mode} {z : Nat} {oz : Oper}

/-- The operations, the last of which does nothing. -/
def lull (ops : Array Oper) (z : Nat) (oz : Oper) : Array Oper := ops.setIfInBounds z { oz with op := .assign (.const (.bool true)) }

/-- The last one is carried out behind all others. -/
def Tail (P : Program) (ops : Array Oper) (z : Nat) (Q : Exit → Act → World → Prop) : Exit → Act → World → Prop
  | .normal, a, w => wpOp P ops Q z (fun a w => Q .normal a w) a w
  | e, a, w => Q e a w

theorem lull_size : (lull ops z oz).size = ops.size := by unfold lull; simp
theorem lull_ne {i : Nat} (h : i ≠ z) : (lull ops z oz)[i]? = ops[i]? := by
  unfold lull
  rw [Array.getElem?_setIfInBounds_ne (by omega)]
theorem lull_at (hz : ops[z]? = some oz) : (lull ops z oz)[z]? = some { oz with op := .assign (.const (.bool true)) } := by
  unfold lull
  have h : z < ops.size := by
    rcases Nat.lt_or_ge z ops.size with h | h
    · exact h
    · rw [Array.getElem?_eq_none h] at hz; cases hz
  rw [Array.getElem?_setIfInBounds_self_of_lt h]

theorem lull_ready (hz : ops[z]? = some oz) (listed : Array Bool) : Region.ready md (lull ops z oz) listed = Region.ready md ops listed := by
  unfold Region.ready
  rw [lull_size]
  congr 1
  funext i
  by_cases h : i = z
  · subst h; rw [lull_at hz, hz]; rfl
  · rw [lull_ne h]

theorem lull_yielded (hz : ops[z]? = some oz) (t : Array Value) : yielded (lull ops z oz) t = yielded ops t := by
  funext j
  unfold yielded
  by_cases h : j = z
  · subst h; rw [lull_at hz, hz]; rfl
  · rw [lull_ne h]

theorem wp_tail {o : Oper} {a : Act} {w : World} {K : Act → World → Prop} (h : o.wp P a w K (Tail P ops z Q)) : o.wp P a w K Q := by
  unfold Oper.wp at *
  generalize (execOp a.eval o).run P w = r at *
  cases r with
  | ok n w' =>
    cases n <;> simp only [Oper.upon] at h ⊢ <;> first
      | exact h
      | exact Calls.mono h (fun e w'' he => by cases e <;> first | exact he | (obtain ⟨a2, w2, h2⟩ := he; exact ⟨a2, w2, h2⟩))
  | halt x w' => cases x <;> simp only [Oper.upon] at h ⊢ <;> exact h

theorem wpOp_tail {i : Nat} {a : Act} {w : World} {K : Act → World → Prop} (hz : ops[z]? = some oz) (hi : i ≠ z) (h : wpOp P (lull ops z oz) (Tail P ops z Q) i K a w) : wpOp P ops Q i K a w := by
  unfold wpOp at *
  rw [lull_ne hi] at h
  cases ho : ops[i]? with
  | none => rw [ho] at h; exact h
  | some o =>
    rw [ho] at h
    simp only [lull_yielded hz] at h ⊢
    split
    · rename_i hw
      simp only [hw, if_true] at h
      rcases h with h | ⟨h1, a2, w2, h2⟩
      · exact .inl (wp_tail h)
      · exact .inr ⟨h1, a2, w2, h2⟩
    · rename_i hw
      simp only [hw] at h
      exact h

/-- Does the i-th wait for the j-th? -/
def waitsFor (md : Region.Mode) (ops : Array Oper) (i j : Nat) : Bool := ((ops[i]?).map (·.after.any fun e => Region.binds md e && e.on == j)).getD false
/-- Each of these is waited for by one that was seen ahead of it. -/
def covers (md : Region.Mode) (ops : Array Oper) : List Nat → List Nat → Bool
  | _, [] => true
  | seen, j :: rest => seen.any (fun i => waitsFor md ops i j) && covers md ops (j :: seen) rest
/-- Whoever waits, waits for one that stands ahead of it. -/
def lowB (ops : Array Oper) : Bool := (List.range ops.size).all fun i => ((ops[i]?).map (·.after.all fun e => decide (e.on < i))).getD true

def Closed (md : Region.Mode) (ops : Array Oper) (listed : Array Bool) : Prop := ∀ i j, i < ops.size → listed.getD i true = true → waitsFor md ops i j = true → listed.getD j false = true

theorem ready_iff {listed : Array Bool} {i : Nat} : i ∈ Region.ready md ops listed ↔ i < ops.size ∧ listed.getD i true = false ∧ ∃ o, ops[i]? = some o ∧ ∀ e ∈ o.after, Region.binds md e = true → listed.getD e.on false = true := by
  unfold Region.ready
  rw [List.mem_filter, List.mem_range, Bool.and_eq_true]
  constructor
  · rintro ⟨h1, h2, h3⟩
    refine ⟨h1, by simpa using h2, ?_⟩
    cases ho : ops[i]? with
    | none => rw [ho] at h3; cases h3
    | some o =>
      rw [ho] at h3
      simp only [Option.map_some, Option.getD_some] at h3
      refine ⟨o, rfl, fun e he hb => ?_⟩
      rw [Array.all_eq_true'] at h3
      have := h3 e he
      rw [hb] at this
      simpa using this
  · rintro ⟨h1, h2, o, ho, h3⟩
    refine ⟨h1, by simp [h2], ?_⟩
    rw [ho]
    simp only [Option.map_some, Option.getD_some]
    rw [Array.all_eq_true']
    intro e he
    cases hb : Region.binds md e with
    | false => rfl
    | true => simp [h3 e he hb]

theorem ready_waits {listed : Array Bool} {i j : Nat} (h : i ∈ Region.ready md ops listed) (hw : waitsFor md ops i j = true) : listed.getD j false = true := by
  obtain ⟨_, _, o, ho, h3⟩ := ready_iff.1 h
  unfold waitsFor at hw
  rw [ho] at hw
  simp only [Option.map_some, Option.getD_some] at hw
  rw [Array.any_eq_true'] at hw
  obtain ⟨e, he, hb⟩ := hw
  rw [Bool.and_eq_true, beq_iff_eq] at hb
  rw [← hb.2]
  exact h3 e he hb.1

theorem getD_set {listed : Array Bool} {i k : Nat} {d : Bool} (hi : i < listed.size) : (listed.setIfInBounds i true).getD k d = if k = i then true else listed.getD k d := by
  simp only [Array.getD_eq_getD_getElem?]
  by_cases h : k = i
  · subst h
    rw [Array.getElem?_setIfInBounds_self_of_lt hi, if_pos rfl]; rfl
  · rw [Array.getElem?_setIfInBounds_ne (by omega), if_neg h]

theorem Closed.set {listed : Array Bool} {i : Nat} (hs : listed.size = ops.size) (h : Closed md ops listed) (hi : i ∈ Region.ready md ops listed) : Closed md ops (listed.setIfInBounds i true) := by
  have hlt := (ready_iff.1 hi).1
  intro k j hk hl hw
  rw [getD_set (by omega)] at hl ⊢
  split
  · rfl
  · by_cases hki : k = i
    · subst hki; exact ready_waits hi hw
    · rw [if_neg hki] at hl
      exact h k j hk hl hw

theorem covers_listed {listed : Array Bool} (hs : listed.size = ops.size) (hc : Closed md ops listed) (hz : z ∈ Region.ready md ops listed) : ∀ (rest seen : List Nat), covers md ops seen rest = true → (∀ i ∈ seen, i = z ∨ (i < ops.size ∧ listed.getD i true = true)) → ∀ j ∈ rest, listed.getD j false = true := by
  intro rest
  induction rest with
  | nil => intro _ _ _ j hj; cases hj
  | cons k rest ih =>
    intro seen hcov hseen j hj
    unfold covers at hcov
    rw [Bool.and_eq_true, List.any_eq_true] at hcov
    obtain ⟨⟨i, hi, hw⟩, hcov⟩ := hcov
    have hk : listed.getD k false = true := by
      rcases hseen i hi with h | h
      · subst h; exact ready_waits hz hw
      · exact hc i k h.1 h.2 hw
    have hk2 : k < ops.size ∧ listed.getD k true = true := by
      simp only [Array.getD_eq_getD_getElem?] at hk ⊢
      cases hl : listed[k]? with
      | none => rw [hl] at hk; cases hk
      | some b =>
        rw [hl] at hk
        refine ⟨?_, by simpa using hk⟩
        rw [← hs]
        rcases Nat.lt_or_ge k listed.size with h | h
        · exact h
        · rw [Array.getElem?_eq_none h] at hl; cases hl
    rcases List.mem_cons.1 hj with h | h
    · subst h; exact hk
    · refine ih (k :: seen) hcov (fun i hi => ?_) j h
      rcases List.mem_cons.1 hi with q | q
      · subst q; exact .inr hk2
      · exact hseen i q

/-- Some operation may come up while one has not. -/
theorem some_ready (hlow : lowB ops = true) {listed : Array Bool} : ∀ (n i : Nat), i ≤ n → i < ops.size → listed.getD i true = false → listed.size = ops.size → Region.ready md ops listed ≠ [] := by
  intro n
  induction n with
  | zero =>
    intro i hi hlt hun hs
    obtain rfl : i = 0 := by omega
    refine fun h0 => ?_
    have : (0 : Nat) ∈ Region.ready md ops listed := ready_iff.2 ⟨hlt, hun, _, Array.getElem?_eq_getElem hlt, fun e he _ => by
      unfold lowB at hlow
      rw [List.all_eq_true] at hlow
      have h1 := hlow 0 (List.mem_range.2 hlt)
      rw [Array.getElem?_eq_getElem hlt] at h1
      simp only [Option.map_some, Option.getD_some] at h1
      rw [Array.all_eq_true'] at h1
      have := h1 e he
      simp at this⟩
    rw [h0] at this; cases this
  | succ n ih =>
    intro i hi hlt hun hs
    by_cases hex : ∃ j, j < i ∧ listed.getD j true = false
    · obtain ⟨j, hj, hju⟩ := hex
      exact ih j (by omega) (by omega) hju hs
    · refine fun h0 => ?_
      have : i ∈ Region.ready md ops listed := ready_iff.2 ⟨hlt, hun, _, Array.getElem?_eq_getElem hlt, fun e he _ => by
        unfold lowB at hlow
        rw [List.all_eq_true] at hlow
        have h1 := hlow i (List.mem_range.2 hlt)
        rw [Array.getElem?_eq_getElem hlt] at h1
        simp only [Option.map_some, Option.getD_some] at h1
        rw [Array.all_eq_true'] at h1
        have h2 := h1 e he
        simp only [decide_eq_true_eq] at h2
        have h3 : listed.getD e.on true = true := by
          cases hh : listed.getD e.on true with
          | true => rfl
          | false => exact absurd ⟨e.on, h2, hh⟩ hex
        have h4 : e.on < listed.size := by omega
        simp only [Array.getD_eq_getD_getElem?, Array.getElem?_eq_getElem h4, Option.getD_some] at h3 ⊢
        exact h3⟩
      rw [h0] at this; cases this

/-- **The others as if the last did nothing, and the last one at the end.** -/
theorem wpAny_last (hz : ops[z]? = some oz) (hd : oz.dst = none) (hg : oz.guard = none) (hlow : lowB ops = true) {rest : List Nat} (hcov : covers md ops [z] rest = true) (hall : ∀ j, j < ops.size → j = z ∨ j ∈ rest) :
    ∀ (fuel : Nat) (listed : Array Bool) (a : Act) (w : World), listed.size = ops.size → Closed md ops listed → listed.getD z true = false →
      wpAny P md (lull ops z oz) (Tail P ops z Q) fuel listed a w → wpAny P md ops Q fuel listed a w := by
  have hzl : z < ops.size := by
    rcases Nat.lt_or_ge z ops.size with h | h
    · exact h
    · rw [Array.getElem?_eq_none h] at hz; cases hz
  intro fuel
  induction fuel with
  | zero =>
    intro listed a w hs hc hu h
    exact absurd (by rw [← lull_ready hz]; exact h.1) (some_ready (md := md) hlow z z (Nat.le_refl _) hzl hu hs)
  | succ fuel ih =>
    intro listed a w hs hc hu h
    obtain ⟨_, h1⟩ := h
    refine ⟨fun h0 => absurd h0 (some_ready (md := md) hlow z z (Nat.le_refl _) hzl hu hs), fun i hi => ?_⟩
    have h2 := h1 i (by rw [lull_ready hz]; exact hi)
    have hilt := (ready_iff.1 hi).1
    by_cases hiz : i = z
    · subst hiz
      have hdone : Region.ready md ops (listed.setIfInBounds i true) = [] := by
        refine List.eq_nil_iff_forall_not_mem.2 fun k hk => ?_
        obtain ⟨k1, k2, _⟩ := ready_iff.1 hk
        rw [getD_set (by omega)] at k2
        split at k2
        · cases k2
        · rename_i hki
          have hkr := (hall k k1).resolve_left hki
          have := covers_listed hs hc hi rest [i] hcov (fun x hx => by simp at hx; exact .inl hx) k hkr
          have hkl : k < listed.size := by omega
          simp only [Array.getD_eq_getD_getElem?, Array.getElem?_eq_getElem hkl, Option.getD_some] at this k2
          rw [this] at k2; cases k2
      have h3 : wpAny P md (lull ops i oz) (Tail P ops i Q) fuel (listed.setIfInBounds i true) a w := by
        unfold wpOp at h2
        rw [lull_at hz] at h2
        simp only [Region.wanted, hg, if_true] at h2
        rcases h2 with h2 | ⟨h2, _⟩
        · unfold Oper.wp at h2
          simpa [execOp, Oper.upon, Act.put, hd] using h2
        · exfalso
          have h5 : noRoomEvent ∈ (#[] : Array Event) := h2.1
          simp at h5
      have h4 : wpOp P ops Q i (fun a w => Q .normal a w) a w := by
        cases fuel with
        | zero => exact h3.2
        | succ fuel => exact h3.1 (by rw [lull_ready hz]; exact hdone)
      refine wpOp_mono (fun a' w' hq => ?_) h4
      cases fuel with
      | zero => exact ⟨hdone, hq⟩
      | succ fuel => exact ⟨fun _ => hq, by rw [hdone]; simp⟩
    · refine wpOp_mono (fun a' w' hq => ?_) (wpOp_tail hz hiz h2)
      refine ih _ a' w' (by simp [hs]) (hc.set hs hi) ?_ hq
      rw [getD_set (by omega), if_neg (fun q => hiz q.symm)]
      exact hu

theorem tail_run {a : Act} {w : World} (hz : ops[z]? = some oz) (hg : oz.guard = none) (h : oz.wp P a w (fun a w => Q .normal a w) Q) : Tail P ops z Q .normal a w := by
  show wpOp P ops Q z (fun a w => Q .normal a w) a w
  unfold wpOp
  rw [hz]
  simp only [Region.wanted, hg, if_true]
  exact .inl h

/-- The beginning of such a walk. -/
theorem wp_region_last {id : Nat} {S : World → Prop} {a : Act} {w : World} (hm : P.follows .mixedOrders = true) (z : Nat) (oz : Oper) (hz : ops[z]? = some oz) (hd : oz.dst = none) (hg : oz.guard = none) (hlow : lowB ops = true) (rest : List Nat) (hcov : covers .any ops [z] rest = true)
    (hall : (List.range ops.size).all (fun j => j == z || rest.contains j) = true) (hS : S w.drew)
    (h : S w.drew → wpAnyH P .any (lull ops z oz) (Tail P ops z Q) S ops.size (Array.replicate ops.size false) a w.drew) : (Code.region id ops true).wp P Q a w := by
  refine wp_region_any hm (wpAny_last (z := z) (oz := oz) (rest := rest) hz hd hg hlow hcov ?_ _ _ _ _ (by simp) ?_ ?_ (wpAny_of_held _ _ _ _ (h hS)))
  · intro j hj
    rw [List.all_eq_true] at hall
    have := hall j (List.mem_range.2 hj)
    simpa using this
  · intro i j hi hl
    exfalso
    simp [Array.getD_eq_getD_getElem?, Array.getElem?_replicate, hi] at hl
  · have hzl : z < ops.size := by
      rcases Nat.lt_or_ge z ops.size with h | h
      · exact h
      · rw [Array.getElem?_eq_none h] at hz; cases hz
    simp [Array.getD_eq_getD_getElem?, Array.getElem?_replicate, hzl]
end

end Go.Proofs.YtipfjjcokajjjaaDoor
