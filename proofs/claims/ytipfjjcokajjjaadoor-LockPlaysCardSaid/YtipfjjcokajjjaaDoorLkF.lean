/-
  What is proved here: steps through a map, for a walk; (*lock.queue).free: whether a holder may have a thing.
  No condition: each lemma names its own.
-/
import Derived.Test.YtipfjjcokajjjaaDoorLkA
import Derived.Deep.LoopGhost
set_option linter.unusedVariables false
set_option linter.unusedSimpArgs false
namespace Go.Proofs.YtipfjjcokajjjaaDoor
open Go.RowKit

section
variable {P : Program} (w : World) {ops : Array Oper} {rest : List Oper} {o : Oper} {a : Act} {Q : Exit → Act → World → Prop}

theorem wpList_range_run (hg : o.guard = none) (m : Operand) (t : TypeId) (hop : o.op = Op.range t m) (v0 : Value) (hm : a.eval m = v0) {v : Value} {W' : World} (hr : (Instr.range t v0).run P w = .ok v W')
    (h : wpList P ops Q rest (a.put o.dst v) W') : wpList P ops Q (o :: rest) a w := by
  refine wpList_plain hg fun K' hK' => ?_
  unfold Oper.wp
  simp [execOp, hop, hm, hr, Result.andThen]
  exact hK' _ _ h

theorem wpList_next_run (hg : o.guard = none) (it : Operand) (hop : o.op = Op.next it false) (v0 : Value) (hit : a.eval it = v0) {v : Value} {W' : World} (hr : ∀ ty, (Instr.next v0 false ty).run P w = .ok v W')
    (h : wpList P ops Q rest (a.put o.dst v) W') : wpList P ops Q (o :: rest) a w := by
  refine wpList_plain hg fun K' hK' => ?_
  unfold Oper.wp
  simp [execOp, hop, hit, hr, Result.andThen]
  exact hK' _ _ h
end

/-- The same step, whatever the type that stands with it. -/
theorem iter_next' {α β : Type} {P : Program} {W : World} {r bm : Nat} {mk : α → Value} {mv : β → Value} {todo : List (α × β)} (h : IterIs W mk mv r bm todo) (hne : r ≠ bm) :
    (todo = [] ∧ ∀ ty, (Instr.next (.pointer (some ⟨r, 0, none⟩)) false ty).run P W = .ok (.tuple #[.bool false]) W) ∨
    ∃ x todo' W', todo.Perm (x :: todo') ∧ (∀ ty, (Instr.next (.pointer (some ⟨r, 0, none⟩)) false ty).run P W = .ok (.tuple #[.bool true, mk x.1, mv x.2]) W') ∧
      (Instr.entry (.pointer (some ⟨r, 0, none⟩))).run P W' = .ok (.tuple #[mk x.1, mv x.2]) W' ∧ IterIs W' mk mv r bm todo' ∧ Only [r] W W' := by
  rcases iter_next (P := P) h hne 0 with ⟨h1, h2⟩ | ⟨x, todo', W', h1, h2, h3⟩
  · exact .inl ⟨h1, fun _ => h2⟩
  · exact .inr ⟨x, todo', W', h1, fun _ => h2, h3⟩

theorem free_perm {l l' : HM} (hp : l.Perm l') (h want : Int) : freeL l h want = freeL l' h want := by
  rw [Bool.eq_iff_iff, free_iff, free_iff]
  exact ⟨fun q x hx => q x (hp.mem_iff.2 hx), fun q x hx => q x (hp.mem_iff.1 hx)⟩
theorem free_cons (x : Int × Int) (l : HM) (h want : Int) : freeL (x :: l) h want = (!barsB x h want && freeL l h want) := rfl

theorem Tog.at {w : World} (h : Tog w) : w.cell? ⟨0, 4, none⟩ = some (.bool true) ∧ w.cell? ⟨0, 5, none⟩ = some (.bool false) ∧ w.cell? ⟨0, 7, none⟩ = some (.bool false) ∧ w.cell? ⟨0, 8, none⟩ = some (.bool false) :=
  ⟨h 1 1 (by omega) (by omega), h 1 2 (by omega) (by omega), h 2 1 (by omega) (by omega), h 2 2 (by omega) (by omega)⟩

set_option maxRecDepth 100000 in
set_option maxHeartbeats 1000000 in
theorem free_any {w W : World} {l : List Res} {p : Nat} {has q : HM} (hh : Modes has) (h want : Int) (hw : want = 1 ∨ want = 2) (htog : Tog W) (hs : Sep w W (queueRes p has q :: l)) :
    Calls Tryd.prog 28 #[.pointer (some ⟨p, 0, none⟩), .int .i64 h, .int .i64 want] W fun e W' => e = .returned (.bool (freeL has h want)) ∧ Only [] W W' := by
  obtain ⟨⟨r, v⟩, hq, _⟩ := hs.open
  simp only [queueParts, List.cons_append, List.nil_append] at hq
  have p0 := cell_of_block hq.blk 0 (v := .map (some r)) rfl
  obtain ⟨oH, bH, hH⟩ := hq.up1.map
  have hrl : r < W.heap.size := lt_of_block bH
  obtain ⟨W1, hrun, hit, ho1, hsz⟩ := iter_start (P := Tryd.prog) bH hH 58 Tryd.underlying58
  have HT := Lib.hid htog
  have HM0 := Lib.hid hh
  have HIT := Lib.hid hit
  have HO1 := Lib.hid ho1
  have HR := Lib.hid hrl
  have HSZ := Lib.hid hsz
  clear hs hq bH hH htog hh hit ho1 hrl hsz
  go_enter Tryd.func28, Tryd.ntmps28
  go_wp2_with (at_range; refine wpList_range_run _ rfl _ _ rfl _ rfl hrun ?_)
  go_frame
  go_loopg [7, 8] has.length (fun gg _ _ wr => ∃ todo : HM, todo.length ≤ gg ∧ Aside (Only [] W wr) ∧ Aside (IterIs wr mInt mInt W.heap.size r todo) ∧ Aside (Modes has) ∧ Aside (∀ x ∈ todo, x ∈ has) ∧ Aside (freeL has h want = freeL todo h want))
  case atStart => exact ⟨has, Nat.le_refl _, HO1.out, HIT.out, HM0.out, fun _ h => h, rfl⟩
  case round =>
    obtain ⟨todo, hlen, HO, HI, HM, HIN, HF⟩ := hrel
    rcases iter_next' (P := Tryd.prog) HI.out (by have := HR.out; omega) with ⟨rfl, hnx⟩ | ⟨⟨x1, x2⟩, todo', W2, hp, hnx, hen, hi2, ho2⟩
    · have HFF := Lib.hid (show freeL has h want = true from HF.out)
      clear hrun HIT
      go_wp2_with (at_next; refine wpList_next_run _ rfl _ rfl _ rfl hnx ?_)
      go_ret
      exact ⟨by rw [HFF.out]; rfl, HO.out⟩
    · have hxin : (x1, x2) ∈ has := HIN.out _ (hp.mem_iff.2 (by simp))
      have hx2 := (HM.out.2 _ hxin).2.2
      have HO2 : Aside (Only [] W W2) := HO.out.trans ho2 (fun k hk => by right; simp at hk; omega)
      have HFF := Lib.hid (show freeL has h want = (!barsB (x1, x2) h want && freeL todo' h want) from by rw [HF.out, free_perm hp, free_cons])
      have HL := Lib.hid (show todo'.length < todo.length from by rw [hp.length_eq]; simp)
      have HI2 := Lib.hid hi2
      have HIN2 := Lib.hid (show ∀ x ∈ todo', x ∈ has from fun x hx => HIN.out x (hp.mem_iff.2 (by simp [hx])))
      obtain ⟨t1, t2, t3, t4⟩ := (HT.out.only HO2.out).at
      clear hrun HIT hi2 ho2 hxin hp HIN HI
      by_cases he : x1 = h
      · subst he
        have HB : Aside (barsB (x1, x2) x1 want = false) := by unfold Aside; simp [barsB]
        go_wp2_with (at_next; refine wpList_next_run _ rfl _ rfl _ rfl hnx ?_)
        go_roundg (todo'.length)
        case measure => have := HL.out; omega
        case rel => exact ⟨todo', Nat.le_refl _, HO2, HI2.out, HM, HIN2.out, (by have := HFF.out; rw [show barsB (x1, x2) x1 want = false from HB] at this; simpa using this : freeL has x1 want = freeL todo' x1 want)⟩
      · rcases hx2 with hx2 | hx2 <;> rcases hw with hw | hw
        all_goals
          simp only at hx2
          subst hx2
          subst hw
        · have HB : Aside (barsB (x1, 1) h 1 = false) := by unfold Aside; simp [barsB]
          go_wp2_with (at_next; refine wpList_next_run _ rfl _ rfl _ rfl hnx ?_)
          go_roundg (todo'.length)
          case measure => have := HL.out; omega
          case rel => exact ⟨todo', Nat.le_refl _, HO2, HI2.out, HM, HIN2.out, (by have := HFF.out; rw [show barsB (x1, 1) h 1 = false from HB] at this; simpa using this : freeL has h 1 = freeL todo' h 1)⟩
        all_goals
          have HB := Lib.hid (show freeL has h _ = false from by rw [HFF.out]; simp [barsB, he])
          go_wp2_with (at_next; refine wpList_next_run _ rfl _ rfl _ rfl hnx ?_)
          go_ret
          exact ⟨by rw [HB.out]; rfl, HO2⟩

end Go.Proofs.YtipfjjcokajjjaaDoor
