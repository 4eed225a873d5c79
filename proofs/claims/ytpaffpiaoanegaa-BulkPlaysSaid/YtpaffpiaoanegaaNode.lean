/-
  What is proved here: nodes of package tree as parts of memory; a node opened, its keys and what hangs beneath.
  No condition.
-/
import Derived.Test.YtpaffpiaoanegaaSlc
import Derived.Test.YtpaffpiaoanegaaTreeR
set_option linter.unusedVariables false
set_option linter.unusedSimpArgs false
namespace Go.Proofs.Ytpaffpiaoanegaa
open Go.RowKit

def encE (e : E) : List Value := [.string e.1, .int .i64 e.2]
def cellsE (l : List E) : List Value := l.flatMap encE
def ptrV (q : Nat) : Value := .pointer (some ⟨q, 0, none⟩)

theorem cellsE_length (l : List E) : (cellsE l).length = l.length * 2 := by
  unfold cellsE
  induction l with
  | nil => rfl
  | cons e l ih => rw [List.flatMap_cons, List.length_append, ih]; simp [encE]; omega
theorem cellsE_append (a b : List E) : cellsE (a ++ b) = cellsE a ++ cellsE b := by unfold cellsE; rw [List.flatMap_append]
theorem cellsE_one : ∀ (l : List E), ∀ u ∈ cellsE l, u.oneCell' = true := by
  intro l u hu
  unfold cellsE at hu
  obtain ⟨e, _, h⟩ := List.mem_flatMap.1 hu
  simp only [encE, List.mem_cons, List.not_mem_nil, or_false] at h
  rcases h with h | h <;> subst h <;> rfl
theorem cellsE_take (l : List E) (i : Nat) : (cellsE l).take (i * 2) = cellsE (l.take i) := by
  induction l generalizing i with
  | nil => simp [cellsE]
  | cons e l ih =>
    cases i with
    | zero => simp [cellsE]
    | succ i =>
      rw [List.take_succ_cons, show cellsE (e :: l) = encE e ++ cellsE l from rfl, show cellsE (e :: l.take i) = encE e ++ cellsE (l.take i) from rfl, ← ih i, show (i + 1) * 2 = i * 2 + 1 + 1 by omega]
      rfl
theorem cellsE_drop (l : List E) (i : Nat) : (cellsE l).drop (i * 2) = cellsE (l.drop i) := by
  induction l generalizing i with
  | nil => simp [cellsE]
  | cons e l ih =>
    cases i with
    | zero => simp
    | succ i =>
      rw [List.drop_succ_cons, show cellsE (e :: l) = encE e ++ cellsE l from rfl, ← ih i, show (i + 1) * 2 = i * 2 + 1 + 1 by omega]
      rfl
theorem cellsE_get {l : List E} {j : Nat} {e : E} (h : l[j]? = some e) : (cellsE l)[j * 2]? = some (.string e.1) ∧ (cellsE l)[j * 2 + 1]? = some (.int .i64 e.2) := by
  induction l generalizing j with
  | nil => simp at h
  | cons x l ih =>
    cases j with
    | zero => simp at h; subst h; exact ⟨rfl, rfl⟩
    | succ j =>
      have := ih (j := j) (by simpa using h)
      rw [show cellsE (x :: l) = Value.string x.1 :: Value.int .i64 x.2 :: cellsE l from rfl, show (j + 1) * 2 = j * 2 + 1 + 1 by omega, List.getElem?_cons_succ, List.getElem?_cons_succ, show j * 2 + 1 + 1 + 1 = (j * 2 + 1) + 1 + 1 by omega, List.getElem?_cons_succ, List.getElem?_cons_succ]
      exact this
theorem ptrs_one (ps : List Nat) : ∀ u ∈ ps.map ptrV, u.oneCell' = true := by
  intro u hu
  obtain ⟨q, _, rfl⟩ := List.mem_map.1 hu
  rfl

/-- No part. -/
def noRes : Res where
  at' _ F := F = []
  lt := by rintro W F rfl k hk; cases hk
  only := by rintro W W' F G rfl _ _; rfl

def ndParts (sub : Nat → T → Res) (p : Nat) (t : T) (x : Value × Value × List Nat) : List Res :=
  blkRes p (.cells #[x.1, x.2.1] 91 (0, 0)) :: rowRes 31 2 x.1 t.keys.length (cellsE t.keys) :: rowRes 84 1 x.2.1 x.2.2.length (x.2.2.map ptrV) :: List.zipWith sub x.2.2 t.kids

/-- A node, and all beneath it: h nodes stand one beneath another below it. -/
def nodeRes : Nat → Nat → T → Res
  | 0, p, t => exRes (ndParts (fun _ _ => noRes) p t) (fun x => x.2.2.length = t.kids.length)
  | h + 1, p, t => exRes (ndParts (nodeRes h) p t) (fun x => x.2.2.length = t.kids.length)
def subRes : Nat → Nat → T → Res
  | 0 => fun _ _ => noRes
  | h + 1 => nodeRes h
theorem nodeRes_eq (h p : Nat) (t : T) : nodeRes h p t = exRes (ndParts (subRes h) p t) (fun x => x.2.2.length = t.kids.length) := by cases h <;> rfl

theorem Sep.nodeOpen {w W : World} {h p : Nat} {t : T} {l : List Res} (hs : Sep w W (nodeRes h p t :: l)) :
    ∃ (kp : Option Addr) (kq : Nat) (cp : Option Addr) (cq : Nat) (ps : List Nat), ps.length = t.kids.length ∧ Sep w W (blkRes p (.cells #[.slice kp t.keys.length kq, .slice cp ps.length cq] 91 (0, 0)) :: rowRes 31 2 (.slice kp t.keys.length kq) t.keys.length (cellsE t.keys) ::
      rowRes 84 1 (.slice cp ps.length cq) ps.length (ps.map ptrV) :: (List.zipWith (subRes h) ps t.kids ++ l)) := by
  rw [nodeRes_eq] at hs
  obtain ⟨⟨kv, cv, ps⟩, h1, h2⟩ := hs.open
  simp only [ndParts] at h1 h2
  have h3 := h1.up1.row
  have h4 := h1.up2.row
  obtain ⟨kp, kq, rfl⟩ := ownsRow_slice h3
  obtain ⟨cp, cq, rfl⟩ := ownsRow_slice h4
  exact ⟨kp, kq, cp, cq, ps, h2, h1⟩

theorem Sep.nodeShut {w W : World} {h p : Nat} {t : T} {kv cv : Value} {ps : List Nat} {l : List Res} (h2 : ps.length = t.kids.length)
    (hs : Sep w W (blkRes p (.cells #[kv, cv] 91 (0, 0)) :: rowRes 31 2 kv t.keys.length (cellsE t.keys) :: rowRes 84 1 cv ps.length (ps.map ptrV) :: (List.zipWith (subRes h) ps t.kids ++ l))) : Sep w W (nodeRes h p t :: l) := by
  rw [nodeRes_eq]
  exact Sep.close (ps := ndParts (subRes h) p t) (kv, cv, ps) hs h2

/-- The child at a place comes to the front. -/
theorem zip_cut {f : Nat → T → Res} {ps : List Nat} {ca cb : List T} {c : T} (hl : ps.length = (ca ++ c :: cb).length) :
    ∃ pa q pb, ps = pa ++ q :: pb ∧ pa.length = ca.length ∧ pb.length = cb.length ∧ List.zipWith f ps (ca ++ c :: cb) = List.zipWith f pa ca ++ f q c :: List.zipWith f pb cb := by
  have h1 : ca.length < ps.length := by rw [hl]; simp
  have hlen : (ps.take ca.length).length = ca.length := by rw [List.length_take]; omega
  have h1' : ca.length < ps.length := h1
  refine ⟨ps.take ca.length, ps[ca.length], ps.drop (ca.length + 1), ?_, hlen, ?_, ?_⟩
  · rw [List.getElem_cons_drop, List.take_append_drop]
  · rw [List.length_drop, hl]; simp only [List.length_append, List.length_cons]; omega
  · conv => lhs; arg 2; rw [← List.take_append_drop ca.length ps, ← List.getElem_cons_drop h1]
    rw [List.zipWith_append hlen, List.zipWith_cons_cons]

/-- What is said of a node, by itself. -/
def NodeAt (h : Nat) (W : World) (p : Nat) (t : T) : Prop := ∃ F, (nodeRes h p t).at' W F

theorem Sep.node {w W : World} {h p : Nat} {t : T} {l : List Res} (hs : Sep w W (nodeRes h p t :: l)) : NodeAt h W p t := by
  obtain ⟨F, h, _⟩ := hs.first; exact ⟨F, h⟩

theorem NodeAt.drew {h : Nat} {W : World} {p : Nat} {t : T} (hn : NodeAt h W p t) : NodeAt h W.drew p t := by
  obtain ⟨F, hf⟩ := hn
  exact ⟨F, (nodeRes h p t).only hf (Only.drew [] W) (by simp)⟩

theorem Parts.mem {W : World} : ∀ {l : List Res} {F : List Nat} {R : Res}, Parts W l F → R ∈ l → ∃ G, R.at' W G
  | [], _, _, _, h => by cases h
  | S :: l, F, R, ⟨F1, F2, _, h1, h2, _⟩, h => by
    rcases List.mem_cons.1 h with q | q
    · subst q; exact ⟨F1, h1⟩
    · exact Parts.mem h2 q

theorem NodeAt.open {h : Nat} {W : World} {p : Nat} {t : T} (hn : NodeAt h W p t) :
    ∃ (kp : Option Addr) (kq : Nat) (cp : Option Addr) (cq : Nat) (ps : List Nat), ps.length = t.kids.length ∧ W.heap[p]? = some (.cells #[.slice kp t.keys.length kq, .slice cp ps.length cq] 91 (0, 0)) ∧
      W.ownsRow 0 31 2 (.slice kp t.keys.length kq) t.keys.length (cellsE t.keys) ∧ W.ownsRow 0 84 1 (.slice cp ps.length cq) ps.length (ps.map ptrV) ∧
      (∀ (i q : Nat) (c : T), ps[i]? = some q → t.kids[i]? = some c → ∃ F, (subRes h q c).at' W F) := by
  obtain ⟨F, hf⟩ := hn
  rw [nodeRes_eq] at hf
  obtain ⟨⟨kv, cv, ps⟩, h1, h2⟩ := hf
  obtain ⟨_, hb⟩ : ∃ G, (blkRes p (.cells #[kv, cv] 91 (0, 0))).at' W G := Parts.mem h1 (by simp [ndParts])
  obtain ⟨_, hk⟩ : ∃ G, (rowRes 31 2 kv t.keys.length (cellsE t.keys)).at' W G := Parts.mem h1 (by simp [ndParts])
  obtain ⟨_, hc⟩ : ∃ G, (rowRes 84 1 cv ps.length (ps.map ptrV)).at' W G := Parts.mem h1 (by simp [ndParts])
  obtain ⟨kp, kq, rfl⟩ := ownsRow_slice hk.1
  obtain ⟨cp, cq, rfl⟩ := ownsRow_slice hc.1
  refine ⟨kp, kq, cp, cq, ps, h2, hb.2, hk.1, hc.1, ?_⟩
  intro i q c h3 h4
  refine Parts.mem h1 ?_
  simp only [ndParts, List.mem_cons]
  refine .inr (.inr (.inr ?_))
  have : (List.zipWith (subRes h) ps t.kids)[i]? = some (subRes h q c) := by rw [List.getElem?_zipWith, h3, h4]
  exact List.mem_of_getElem? this

/-- The keys of a row, cell by cell. -/
theorem keyCells {W : World} {kp : Option Addr} {n kq : Nat} {ks : List E} (h : W.ownsRow 0 31 2 (.slice kp n kq) n (cellsE ks)) {j : Nat} {e : E} (hj : ks[j]? = some e) :
    ∃ g, kp = some ⟨g, 0, none⟩ ∧ W.cell? ⟨g, j * 2, none⟩ = some (.string e.1) ∧ W.cell? ⟨g, j * 2 + 1, none⟩ = some (.int .i64 e.2) := by
  obtain ⟨h1, h2⟩ := cellsE_get hj
  obtain ⟨g, rfl, c1, _⟩ := ownsRow_cell_of h h1
  obtain ⟨g', he, c2, _⟩ := ownsRow_cell_of h h2
  cases he
  exact ⟨g, rfl, c1, c2⟩

end Go.Proofs.Ytpaffpiaoanegaa
