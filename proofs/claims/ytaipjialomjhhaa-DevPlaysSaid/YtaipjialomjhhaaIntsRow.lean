/-
  What is proved here: a row of whole numbers that the call made may be handed to Crash.
  Condition: the row lies in blocks that the device does not have.
-/
import Derived.Test.YtaipjialomjhhaaDevRes
import Derived.Test.YtaipjialomjhhaaSepRow
namespace Go.Proofs.Ytaipjialomjhhaa
open Go.RowKit

theorem intsIn_row {W : World} {G : List Nat} {p : Option Addr} {q : Nat} {l : List Int} (h : W.ownsRow 0 3 1 (.slice p l.length q) l.length (l.map (Value.int .i64))) (hG : ∀ g, p = some ⟨g, 0, none⟩ → g ∉ G) : IntsIn W G (.slice p l.length q) l := by
  by_cases hn : l.length = 0
  · have hl := List.eq_nil_of_length_eq_zero hn
    subst hl
    rcases h.2 with ⟨h1, _⟩ | ⟨g, cap, cur, hv, _, hg, _⟩
    · simp only [Value.slice.injEq] at h1
      obtain ⟨rfl, _, rfl⟩ := h1
      exact .inl ⟨0, rfl, rfl⟩
    · simp only [Value.slice.injEq] at hv
      obtain ⟨rfl, _, rfl⟩ := hv
      exact .inr ⟨g, 0, q, rfl, hG g rfl, lt_of_block hg, by simp⟩
  · obtain ⟨g, rfl, hg, hc⟩ := ownsRow_cellAt h (by omega)
    refine .inr ⟨g, 0, q, rfl, hG g rfl, hg, fun j x hx => ?_⟩
    rw [Nat.zero_add]
    exact hc j _ (by simp [hx])

/-- A crash with such a row. -/
theorem sep_crash_row {w W : World} {b : Nat} {d : DevS} {l : List Res} {p : Option Addr} {q : Nat} {keep : List Int} (h : Sep w W (devRes b d :: rowRes 3 1 (.slice p keep.length q) keep.length (keep.map (Value.int .i64)) :: l)) (hk : d.held.length ≤ 1000000) (hkl : keep.length ≤ 1000000000) :
    Calls Try.prog 15 #[.pointer (some ⟨b, 0, none⟩), .slice p keep.length q] W fun e W' => e = .returned (.tuple #[]) ∧ Sep w W' (devRes b (d.crash keep) :: rowRes 3 1 (.slice p keep.length q) keep.length (keep.map (Value.int .i64)) :: l) :=
  sep_crash2 (.slice p keep.length q) keep h hk (fun F G hF hG hd => intsIn_row hG.1 (fun g hg r => hd g r (by rw [hG.2, hg]; simp [Value.ownBlock]))) hkl

end Go.Proofs.Ytaipjialomjhhaa
