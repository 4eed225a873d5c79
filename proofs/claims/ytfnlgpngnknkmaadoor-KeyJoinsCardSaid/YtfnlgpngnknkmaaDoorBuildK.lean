/-
  What is proved here: a strings.Builder that the call made ('BldAt'): what its calls do, over the call's first world.
  Conditions: at most 2^46 bytes.
-/
import Derived.Test.YtfnlgpngnknkmaaDoorShelf
import Derived.Test.YtfnlgpngnknkmaaDoorKyV
namespace Go.Proofs.YtfnlgpngnknkmaaDoor
open Go.RowKit
set_option linter.unusedSimpArgs false
set_option linter.unusedVariables false

/-- In W, which came out of w0, the builder at block b has the bytes l. -/
def BldAt (w0 : World) (b : Nat) (l : List UInt8) (W : World) : Prop :=
  Lib.IsBuilderF 49 5 w0.heap.size b (Lib.byteCells l) W ∧ Below w0.heap.size w0 W

theorem BldAt.old {w0 W : World} {b : Nat} {l : List UInt8} (h : BldAt w0 b l W) : Only [] w0 W := Only.of_below h.2

theorem BldAt.new (w0 : World) : BldAt w0 w0.heap.size [] (w0.alloc (.cells #[.pointer none, .slice none 0 0] 49)) := by
  refine ⟨.inl ⟨Nat.le_refl _, .slice none 0 0, heap_alloc_self, World.ownsRowF_nil _ _ _ _, by simp [Value.ownBlock]⟩, ?_⟩
  exact (Only.alloc [] w0 _).below (Nat.le_refl _) (by simp)

theorem bld_only {w0 W W' : World} {b : Nat} {p : Value} {bs : List Value} (h : Lib.BuilderAtF 49 5 w0.heap.size b p bs W) (ho : Only [] W W') : Lib.BuilderAtF 49 5 w0.heap.size b p bs W' := by
  obtain ⟨h1, v, h2, h3, h4⟩ := h
  refine ⟨h1, v, ho.keeps h2 (by simp), h3.kept (row := none) ⟨ho.os, ho.tape, ho.output, ho.size, fun k hk _ => ho.block k hk (by simp)⟩ ?_, h4⟩
  cases e : v.ownBlock
  · exact .inl rfl
  · exact .inr (by simp)

theorem BldAt.only {w0 W W' : World} {b : Nat} {l : List UInt8} (h : BldAt w0 b l W) (ho : Only [] W W') : BldAt w0 b l W' := by
  refine ⟨?_, (h.old.trans ho (Within.nil _ _)).below (Nat.le_refl _) (by simp)⟩
  rcases h.1 with h1 | h1
  · exact .inl (bld_only h1 ho)
  · exact .inr (bld_only h1 ho)

theorem BldAt.write {w0 W : World} {b : Nat} {l : List UInt8} (h : BldAt w0 b l W) (s : ByteArray) (hlen : l.length + s.size ≤ 140737488355328) :
    Calls Tryd.prog 26 #[.pointer (some ⟨b, 0, none⟩), .string s] W fun e W' => e = .returned (.tuple #[.int .i64 s.size, .nilIface]) ∧ BldAt w0 b (l ++ s.data.toList) W' := by
  refine (Any.Builder_WriteString_f { Tryd.lays156 with } Tryd.Builder_Extra_156 w0.heap.size b (Lib.byteCells l) s W h.1 (by rw [Lib.byteCells_length]; exact hlen) h.2.size).mono ?_
  rintro e W' ⟨he, h1, h2⟩
  refine ⟨he, ?_, ?_⟩
  · rw [Lib.byteCells_append, ← Lib.strCells_eq]
    exact .inr h1
  · exact h.2.trans h2

theorem BldAt.text {w0 W : World} {b : Nat} {l : List UInt8} (h : BldAt w0 b l W) :
    Calls Tryd.prog 29 #[.pointer (some ⟨b, 0, none⟩)] W fun e W' => e = .returned (.string ⟨l.toArray⟩) ∧ BldAt w0 b l W' := by
  refine (Tryd.Builder_String_any_f w0.heap.size b l W h.1 h.2.size).mono ?_
  rintro e W' ⟨he, h1, h2⟩
  exact ⟨he, h1, h.2.trans h2⟩

theorem BldAt.len {w0 W : World} {b : Nat} {l : List UInt8} (h : BldAt w0 b l W) :
    Calls Tryd.prog 28 #[.pointer (some ⟨b, 0, none⟩)] W fun e W' => e = .returned (.int .i64 l.length) ∧ W = W' := by
  refine (Tryd.Builder_Len_f w0.heap.size b (Lib.byteCells l) W h.1).mono ?_
  rintro e W' ⟨he, h1⟩
  rw [Lib.byteCells_length] at he
  exact ⟨he, h1.symm⟩

end Go.Proofs.YtfnlgpngnknkmaaDoor
