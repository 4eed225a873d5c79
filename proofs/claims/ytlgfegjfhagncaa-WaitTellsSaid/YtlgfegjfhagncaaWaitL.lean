/-
  What is proved here: the map of edges of package wait, while it is built: what a look-up, a store does.
  No condition: each lemma names its own.
-/
import Derived.Test.YtlgfegjfhagncaaWaitR
set_option linter.unusedSimpArgs false
set_option linter.unusedVariables false
namespace Go.Proofs.Ytlgfegjfhagncaa
open Go.RowKit

theorem leads_ne {L : Edges} {a b c : Int} (h : c ≠ a) : leads (L ++ [(a, b)]) c = leads L c := by
  unfold leads
  rw [List.filter_append]
  have : ((a == c) = false) := by rw [beq_eq_false_iff_ne]; exact fun e => h e.symm
  simp [this]
theorem leads_eq (L : Edges) (a b : Int) : leads (L ++ [(a, b)]) a = leads L a ++ [b] := by
  unfold leads
  rw [List.filter_append]
  simp

abbrev Ent := Int × Option Addr × Nat
def ldV (L : Edges) (e : Ent) : Int × Value := (e.1, .slice e.2.1 (leads L e.1).length e.2.2)
def ldR (L : Edges) (e : Ent) : Res := rowRes 3 1 (.slice e.2.1 (leads L e.1).length e.2.2) (leads L e.1).length (intCells (leads L e.1))
/-- The map m holds the edges L, each node's ends in a row of its own. -/
def LState (w W : World) (m : Nat) (L : Edges) : Prop := ∃ ents : List Ent, (ents.map Prod.fst).Nodup ∧ (∀ a, a ∈ ents.map Prod.fst ↔ leads L a ≠ []) ∧ Sep w W (blkRes m (mapObj (ents.map (ldV L))) :: ents.map (ldR L))

theorem ldV_keys (L : Edges) (ents : List Ent) : (ents.map (ldV L)).map Prod.fst = ents.map Prod.fst := by
  rw [List.map_map]; rfl

theorem Sep.memb {w W : World} {l : List Res} {R : Res} (h : Sep w W l) (hm : R ∈ l) : ∃ F, R.at' W F := by
  obtain ⟨A, B, rfl⟩ := List.append_of_mem hm
  have h2 : Sep w W (R :: (A ++ B)) := h.perm List.perm_middle
  obtain ⟨F, h1, _⟩ := h2.first
  exact ⟨F, h1⟩

theorem LState.at {w W : World} {m : Nat} {L : Edges} (h : LState w W m L) : LeadsAt W m L := by
  obtain ⟨ents, hnd, hno, hs⟩ := h
  refine ⟨ents.map (ldV L), hs.blk, by rw [ldV_keys]; exact hnd, fun a v hv => ?_, fun a ha => Classical.byContradiction fun hne => ?_⟩
  · obtain ⟨e, he, h2⟩ := List.mem_map.1 hv
    simp only [ldV, Prod.mk.injEq] at h2
    obtain ⟨rfl, rfl⟩ := h2
    refine ⟨e.2.1, e.2.2, rfl, ?_⟩
    obtain ⟨F, hF⟩ := hs.memb (List.mem_cons_of_mem _ (List.mem_map.2 ⟨e, he, rfl⟩))
    have hrow : W.ownsRow 0 3 1 (.slice e.2.1 (leads L e.1).length e.2.2) (leads L e.1).length (intCells (leads L e.1)) := hF.1
    intro j x hx
    obtain ⟨g, e1, h1, _⟩ := ownsRow_cell_of hrow (intCells_at hx)
    exact ⟨g, 0, e1, int_cell_lt h1, by rw [Nat.zero_add]; exact h1⟩
  · obtain ⟨e, he, rfl⟩ := List.mem_map.1 ((hno a).2 hne)
    exact ha (ldV L e) (List.mem_map.2 ⟨e, he, rfl⟩) rfl

theorem LState.new {w W : World} {m : Nat} (h : Sep w W [blkRes m (mapObj [])]) : LState w W m [] := ⟨[], List.nodup_nil, fun a => by simp [leads], h⟩

/-- One edge more: what the look-up gives, what the store leaves. -/
theorem LState.next {w W : World} {m : Nat} {L : Edges} (h : LState w W m L) (a b : Int) :
    ∃ (p0 : Option Addr) (q0 : Nat) (M : List (Int × Value)) (upd : Option Addr → Nat → List (Int × Value)) (rest : List Res),
      (∀ V, V.heap[m]? = some (mapObj M) → (Instr.lookup 37 (.map (some m)) (.int .i64 a) false).run Try.prog V = .ok (.slice p0 (leads L a).length q0) V) ∧
      (∀ V p q, V.heap[m]? = some (mapObj M) → ∃ W', (Instr.mapUpdate 37 (.map (some m)) (.int .i64 a) (.slice p ((leads L a).length + 1) q)).run Try.prog V = .ok () W' ∧ Turned V W' m (mapObj (upd p q))) ∧
      Sep w W (rowRes 3 1 (.slice p0 (leads L a).length q0) (leads L a).length (intCells (leads L a)) :: blkRes m (mapObj M) :: rest) ∧
      (∀ V p q, Sep w V (rowRes 3 1 (.slice p ((leads L a).length + 1) q) ((leads L a).length + 1) (intCells (leads L a ++ [b])) :: blkRes m (mapObj (upd p q)) :: rest) → LState w V m (L ++ [(a, b)])) := by
  obtain ⟨ents, hnd, hno, hs⟩ := h
  by_cases hin : a ∈ ents.map Prod.fst
  · obtain ⟨e, he, rfl⟩ := List.mem_map.1 hin
    obtain ⟨A, B, rfl⟩ := List.append_of_mem he
    have hnd' := hnd
    rw [List.map_append, List.map_cons, List.nodup_append] at hnd'
    obtain ⟨_, hB, hAB⟩ := hnd'
    have neA : ∀ x ∈ A, x.1 ≠ e.1 := fun x hx => hAB x.1 (List.mem_map.2 ⟨x, hx, rfl⟩) e.1 (by simp)
    have neB : ∀ x ∈ B, x.1 ≠ e.1 := fun x hx hc => (List.nodup_cons.1 hB).1 (List.mem_map.2 ⟨x, hx, hc⟩)
    have hidx : ((A ++ e :: B).map (ldV L))[A.length]? = some (e.1, .slice e.2.1 (leads L e.1).length e.2.2) := by
      rw [List.map_append, List.getElem?_append_right (by simp)]
      simp [ldV]
    refine ⟨e.2.1, e.2.2, (A ++ e :: B).map (ldV L), fun p q => ((A ++ e :: B).map (ldV L)).set A.length (e.1, .slice p ((leads L e.1).length + 1) q), A.map (ldR L) ++ B.map (ldR L), ?_, ?_, ?_, ?_⟩
    · intro V hV
      exact mapI_look Try.underlying37 Try.underlying3 hV (by rw [ldV_keys]; exact hnd) hidx false
    · intro V p q hV
      exact mapI_set (w := V) _ Try.underlying37 Try.underlying3 hV (by rw [ldV_keys]; exact hnd) hidx
    · have e2 : (A ++ e :: B).map (ldR L) = A.map (ldR L) ++ ldR L e :: B.map (ldR L) := by simp
      rw [e2] at hs
      exact hs.perm ((List.Perm.cons _ List.perm_middle).trans (.swap _ _ _))
    · intro V p q hV
      refine ⟨A ++ (e.1, p, q) :: B, by simpa using hnd, fun c => ?_, ?_⟩
      · have hk : (A ++ (e.1, p, q) :: B).map Prod.fst = (A ++ e :: B).map Prod.fst := by simp
        rw [hk]
        by_cases hce : c = e.1
        · subst hce
          rw [leads_eq]
          exact ⟨fun _ => by simp, fun _ => hin⟩
        · rw [leads_ne hce]
          exact hno c
      · have e1 : (A ++ (e.1, p, q) :: B).map (ldV (L ++ [(e.1, b)])) = ((A ++ e :: B).map (ldV L)).set A.length (e.1, .slice p ((leads L e.1).length + 1) q) := by
          have hA : A.map (ldV (L ++ [(e.1, b)])) = A.map (ldV L) := List.map_congr_left fun x hx => by unfold ldV; rw [leads_ne (neA x hx)]
          have hB' : B.map (ldV (L ++ [(e.1, b)])) = B.map (ldV L) := List.map_congr_left fun x hx => by unfold ldV; rw [leads_ne (neB x hx)]
          have hl : (A.map (ldV L)).length = A.length := by simp
          rw [List.map_append, List.map_cons, List.map_append, List.map_cons, hA, hB', List.set_append, if_neg (by rw [hl]; omega), hl, Nat.sub_self, List.set_cons_zero]
          have : ldV (L ++ [(e.1, b)]) (e.1, p, q) = (e.1, .slice p ((leads L e.1).length + 1) q) := by
            unfold ldV; simp only; rw [leads_eq, List.length_append]; rfl
          rw [this]
        have e2 : (A ++ (e.1, p, q) :: B).map (ldR (L ++ [(e.1, b)])) = A.map (ldR L) ++ rowRes 3 1 (.slice p ((leads L e.1).length + 1) q) ((leads L e.1).length + 1) (intCells (leads L e.1 ++ [b])) :: B.map (ldR L) := by
          have hA : A.map (ldR (L ++ [(e.1, b)])) = A.map (ldR L) := List.map_congr_left fun x hx => by unfold ldR; rw [leads_ne (neA x hx)]
          have hB' : B.map (ldR (L ++ [(e.1, b)])) = B.map (ldR L) := List.map_congr_left fun x hx => by unfold ldR; rw [leads_ne (neB x hx)]
          rw [List.map_append, List.map_cons, hA, hB']
          have : ldR (L ++ [(e.1, b)]) (e.1, p, q) = rowRes 3 1 (.slice p ((leads L e.1).length + 1) q) ((leads L e.1).length + 1) (intCells (leads L e.1 ++ [b])) := by
            unfold ldR; simp only; rw [leads_eq, List.length_append]; rfl
          rw [this]
        rw [e1, e2]
        exact hV.perm ((List.Perm.swap _ _ _).trans (List.Perm.cons _ List.perm_middle.symm))
  · have h0 : leads L a = [] := Classical.byContradiction fun hne => hin ((hno a).2 hne)
    have hn : ∀ x ∈ ents.map (ldV L), x.1 ≠ a := by
      intro x hx hc
      obtain ⟨e, he, rfl⟩ := List.mem_map.1 hx
      exact hin (List.mem_map.2 ⟨e, he, hc⟩)
    have neE : ∀ x ∈ ents, x.1 ≠ a := fun x hx hc => hin (List.mem_map.2 ⟨x, hx, hc⟩)
    rw [h0]
    refine ⟨none, 0, ents.map (ldV L), fun p q => ents.map (ldV L) ++ [(a, .slice p 1 q)], ents.map (ldR L), ?_, ?_, ?_, ?_⟩
    · intro V hV
      exact mapI_miss (w := V) a Try.underlying37 Try.underlying3 hV hn (Try.zeroValue28 V) false
    · intro V p q hV
      exact mapI_put (w := V) a _ Try.underlying37 Try.underlying3 hV hn
    · exact hs.row_nil _ _
    · intro V p q hV
      refine ⟨ents ++ [(a, p, q)], ?_, fun c => ?_, ?_⟩
      · rw [List.map_append]
        refine List.nodup_append.2 ⟨hnd, by simp, fun x hx y hy => ?_⟩
        simp only [List.map_cons, List.map_nil, List.mem_singleton] at hy
        subst hy
        intro hc; subst hc; exact hin hx
      · rw [List.map_append, List.mem_append]
        by_cases hca : c = a
        · subst hca
          rw [leads_eq]
          exact ⟨fun _ => by simp, fun _ => .inr (by simp)⟩
        · rw [leads_ne hca, ← hno c]
          constructor
          · rintro (h | h)
            · exact h
            · simp only [List.map_cons, List.map_nil, List.mem_singleton] at h
              exact absurd h hca
          · exact .inl
      · have e1 : (ents ++ [(a, p, q)]).map (ldV (L ++ [(a, b)])) = ents.map (ldV L) ++ [(a, .slice p 1 q)] := by
          have hA : ents.map (ldV (L ++ [(a, b)])) = ents.map (ldV L) := List.map_congr_left fun x hx => by unfold ldV; rw [leads_ne (neE x hx)]
          rw [List.map_append, hA]
          have : ldV (L ++ [(a, b)]) (a, p, q) = (a, .slice p 1 q) := by unfold ldV; simp only; rw [leads_eq, h0]; rfl
          rw [List.map_cons, this]; rfl
        have e2 : (ents ++ [(a, p, q)]).map (ldR (L ++ [(a, b)])) = ents.map (ldR L) ++ [rowRes 3 1 (.slice p 1 q) 1 (intCells [b])] := by
          have hA : ents.map (ldR (L ++ [(a, b)])) = ents.map (ldR L) := List.map_congr_left fun x hx => by unfold ldR; rw [leads_ne (neE x hx)]
          rw [List.map_append, hA]
          have : ldR (L ++ [(a, b)]) (a, p, q) = rowRes 3 1 (.slice p 1 q) 1 (intCells [b]) := by unfold ldR; simp only; rw [leads_eq, h0]; rfl
          rw [List.map_cons, this]; rfl
        rw [e1, e2]
        exact hV.perm ((List.Perm.swap _ _ _).trans (List.Perm.cons _ (List.perm_append_comm (l₁ := [_]))))

end Go.Proofs.Ytlgfegjfhagncaa
