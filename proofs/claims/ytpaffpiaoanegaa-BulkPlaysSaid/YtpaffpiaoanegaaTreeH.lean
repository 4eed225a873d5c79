/-
  What is proved here: the key that is near another one (At, Before of package tree).
  No condition: each lemma names its own.
-/
import Derived.Test.YtpaffpiaoanegaaTreeG
set_option linter.unusedVariables false
set_option linter.unusedSimpArgs false
namespace Go.Proofs.Ytpaffpiaoanegaa
open Go.RowKit

def bestC (o : Option E) : Array Value := match o with | some e => #[.string e.1, .int .i64 e.2] | none => #[.string ⟨#[]⟩, .int .i64 0]
def trio (o : Option E) : Value := match o with | some e => .tuple #[.string e.1, .int .i64 e.2, .bool true] | none => .tuple #[.string ⟨#[]⟩, .int .i64 0, .bool false]
theorem text_ne {a b : ByteArray} (h : a ≠ b) : (a.toList == b.toList) = false := by
  rw [Bool.eq_false_iff]
  intro q
  rw [beq_iff_eq, Lib.toList_data, Lib.toList_data] at q
  refine h ?_
  cases a; cases b
  simp only [ByteArray.mk.injEq]
  exact Array.toList_inj.1 q

end Go.Proofs.Ytpaffpiaoanegaa
