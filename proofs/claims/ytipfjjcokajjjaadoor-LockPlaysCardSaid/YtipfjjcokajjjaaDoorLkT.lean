/-
  What is proved here: the predicates that Take, Release and For of package lock hand to package slices.
  No condition: each lemma names its own.
-/
import Derived.Test.YtipfjjcokajjjaaDoorLkD
import Derived.Test.YtipfjjcokajjjaaDoorLkS
import Derived.Test.YtipfjjcokajjjaaDoorLkK
set_option linter.unusedVariables false
set_option linter.unusedSimpArgs false
namespace Go.Proofs.YtipfjjcokajjjaaDoor
open Go.RowKit

set_option maxRecDepth 100000 in
theorem take1_any {W : World} {qb p r : Nat} {o : Obj} {has : HM} {c1 c2 : Array Value} {e1 e2 : TypeId} (hq : W.heap[qb]? = some (.cells c1 e1 (0, 0))) (h1 : c1[0]? = some (.pointer (some ⟨p, 0, none⟩))) (hp : W.heap[p]? = some (.cells c2 e2 (0, 0))) (h2 : c2[0]? = some (.map (some r)))
    (hb : W.heap[r]? = some o) (hm : MapIs mInt mInt has o) (hh : Modes has) : Tells Tryd.prog 30 #[.pointer (some ⟨qb, 0, none⟩)] (fun y => decide (modeL has y.1 ≠ 1)) [] W := by
  unfold Tells
  intro W' x ho
  obtain ⟨x1, x2⟩ := x
  simp only [List.append_toArray, List.cons_append, List.nil_append]
  have hb1 := heap_alloc_lt (o := .cells #[.int .i64 x1, .int .i64 x2] 65) (lt_of_block (ho.keeps hq (by simp)))
  have hb2 := heap_alloc_lt (o := .cells #[.int .i64 x1, .int .i64 x2] 65) (lt_of_block (ho.keeps hp (by simp)))
  have hb3 := heap_alloc_lt (o := .cells #[.int .i64 x1, .int .i64 x2] 65) (lt_of_block (ho.keeps hb (by simp)))
  rw [ho.keeps hq (by simp)] at hb1
  rw [ho.keeps hp (by simp)] at hb2
  rw [ho.keeps hb (by simp)] at hb3
  have a0 := cell_of_block hb1 0 h1
  have a1 := cell_of_block hb2 0 h2
  have lk := fun n => modes_look (w := (W'.alloc (.cells #[.int .i64 x1, .int .i64 x2] 65)).drewN n) Tryd.underlying58 Tryd.underlying3 Tryd.zInt hb3 hm hh x1
  have c0 := cell_of_block (heap_alloc_self (w := W') (o := .cells #[.int .i64 x1, .int .i64 x2] 65)) 0 (v := .int .i64 x1) rfl
  have HV := Lib.hid (Only.alloc [] W' (.cells #[.int .i64 x1, .int .i64 x2] 65))
  clear hb1 hb2 hb3 hq hp hb hm ho
  obtain ⟨m, hmm⟩ : ∃ m, m = modeL has x1 := ⟨_, rfl⟩
  rw [← hmm] at lk
  have HE := Lib.hid hmm; clear hmm
  go_enter Tryd.func30, Tryd.ntmps30
  go_wp2_with fail
  go_quiet (fail)
  go_wp2_with fail
  go_ret
  exact ⟨by rw [HE.out, show (modeL has x1 != 1) = decide (modeL has x1 ≠ 1) from by rw [Bool.eq_iff_iff]; simp]; rfl, (HV.out.trans (Only.drewN [] _ _) (Within.nil _ _))⟩

set_option maxRecDepth 100000 in
theorem rel1_any {W : World} {F : List Nat} {hb : Nat} {h : Int} {c1 : Array Value} {e1 : TypeId} (hq : W.heap[hb]? = some (.cells c1 e1 (0, 0))) (h1 : c1[0]? = some (.int .i64 h)) (hF : hb ∉ F) : Tells Tryd.prog 37 #[.pointer (some ⟨hb, 0, none⟩)] (fun y => decide (y.1 = h)) F W := by
  unfold Tells
  intro W' x ho
  obtain ⟨x1, x2⟩ := x
  simp only [List.append_toArray, List.cons_append, List.nil_append]
  have hb1 := heap_alloc_lt (o := .cells #[.int .i64 x1, .int .i64 x2] 65) (lt_of_block (ho.keeps hq hF))
  rw [ho.keeps hq hF] at hb1
  have a0 := cell_of_block hb1 0 h1
  have c0 := cell_of_block (heap_alloc_self (w := W') (o := .cells #[.int .i64 x1, .int .i64 x2] 65)) 0 (v := .int .i64 x1) rfl
  have HV := Lib.hid (Only.alloc [] W' (.cells #[.int .i64 x1, .int .i64 x2] 65))
  clear hb1 hq ho
  go_enter Tryd.func37, Tryd.ntmps37
  go_wp2_with fail
  go_ret
  exact ⟨by rw [Bool.beq_eq_decide_eq]; rfl, HV.out⟩

set_option maxRecDepth 100000 in
theorem for1_any {W : World} {F : List Nat} {hb : Nat} {h : Int} {c1 : Array Value} {e1 : TypeId} (hq : W.heap[hb]? = some (.cells c1 e1 (0, 0))) (h1 : c1[0]? = some (.int .i64 h)) (hF : hb ∉ F) : Tells Tryd.prog 38 #[.pointer (some ⟨hb, 0, none⟩)] (fun y => decide (y.1 = h)) F W := by
  unfold Tells
  intro W' x ho
  obtain ⟨x1, x2⟩ := x
  simp only [List.append_toArray, List.cons_append, List.nil_append]
  have hb1 := heap_alloc_lt (o := .cells #[.int .i64 x1, .int .i64 x2] 65) (lt_of_block (ho.keeps hq hF))
  rw [ho.keeps hq hF] at hb1
  have a0 := cell_of_block hb1 0 h1
  have c0 := cell_of_block (heap_alloc_self (w := W') (o := .cells #[.int .i64 x1, .int .i64 x2] 65)) 0 (v := .int .i64 x1) rfl
  have HV := Lib.hid (Only.alloc [] W' (.cells #[.int .i64 x1, .int .i64 x2] 65))
  clear hb1 hq ho
  go_enter Tryd.func38, Tryd.ntmps38
  go_wp2_with fail
  go_ret
  exact ⟨by rw [Bool.beq_eq_decide_eq]; rfl, HV.out⟩

end Go.Proofs.YtipfjjcokajjjaaDoor
