/-
  What is proved here: the document's answer on waiting: has, put.
  Condition: lists are no longer than the model's ints.
-/
import Derived.Test.YtlgfegjfhagncaaWaitM
import Derived.Test.YtlgfegjfhagncaaOpen
import Derived.Test.YtlgfegjfhagncaaSepParts
import Derived.Deep.DeepMust
namespace Go.Proofs.Ytlgfegjfhagncaa
open Go.RowKit

def intCells (xs : List Int) : List Value := xs.map (Value.int .i64)
theorem intCells_at {xs : List Int} {i : Nat} {x : Int} (h : xs[i]? = some x) : (intCells xs)[i]? = some (.int .i64 x) := by simp [intCells, h]
theorem intCells_append (xs ys : List Int) : intCells (xs ++ ys) = intCells xs ++ intCells ys := by simp [intCells]

theorem int_cell_lt {W : World} {g j : Nat} {v : Value} (h : W.cell? ⟨g, j, none⟩ = some v) : g < W.heap.size := by
  rcases Nat.lt_or_ge g W.heap.size with h' | h'
  · exact h'
  · simp [World.cell?, Array.getElem?_eq_none h'] at h

theorem Sep.intsAt {w W : World} {p : Option Addr} {n q : Nat} {xs : List Int} {l : List Res} (h : Sep w W (rowRes 3 1 (.slice p n q) n (intCells xs) :: l)) : IntsAt W p xs := by
  intro j x hx
  obtain ⟨g, e, h1, _⟩ := ownsRow_cell_of h.row (intCells_at hx)
  exact ⟨g, 0, e, int_cell_lt h1, by rw [Nat.zero_add]; exact h1⟩

theorem int_drop {xs : List Int} {i : Nat} {x : Int} (h : xs[i]? = some x) : xs.drop i = x :: xs.drop (i + 1) := by
  obtain ⟨hi, rfl⟩ := List.getElem?_eq_some_iff.1 h
  exact List.drop_eq_getElem_cons hi

theorem has_any (xs : List Int) (p : Option Addr) (q : Nat) (n : Int) (w : World) (hl : xs.length ≤ 1000000000) (h : IntsAt w p xs) :
    Calls Try.prog 19 #[.slice p xs.length q, .int .i64 n] w fun e w' => e = .returned (.bool (decide (n ∈ xs))) ∧ w = w' := by
  have H := Lib.hid h; clear h
  go_enter Try.func19, Try.ntmps19
  go_wp2_with fail
  go_loopw [5] (fun s3 wr => ∃ i : Nat, i ≤ xs.length ∧ s3 = .int .i64 i ∧ w = wr ∧ (n ∈ xs ↔ n ∈ xs.drop i)) (fun s3 _ => xs.length - (intOf s3).toNat)
  case atStart => exact ⟨0, Nat.zero_le _, rfl, rfl, Iff.rfl⟩
  case round =>
    obtain ⟨i, hi, rfl, rfl, hm⟩ := hrel
    by_cases hlt : i < xs.length
    · obtain ⟨x, hx⟩ : ∃ x, xs[i]? = some x := ⟨_, List.getElem?_eq_getElem hlt⟩
      obtain ⟨b, o, rfl, hb, c0⟩ := H.out i x hx
      rw [int_drop hx, List.mem_cons] at hm
      clear hx
      by_cases he : n = x
      · subst he
        have HM : Hid (n ∈ xs) := hm.2 (.inl rfl)
        clear hm
        go_wp2_with fail
        go_ret
        exact ⟨by rw [decide_eq_true HM.out]; rfl, rfl⟩
      · have HM : Hid (n ∈ xs ↔ n ∈ xs.drop (i + 1)) := by
          show _ ↔ _
          rw [hm]
          constructor
          · rintro (e | e)
            · exact absurd e he
            · exact e
          · exact .inr
        clear hm
        have he' : (x == n) = false := by rw [beq_eq_false_iff_ne]; exact fun e => he e.symm
        go_wp2_with fail
        go_roundw
        case rel => exact ⟨i + 1, by omega, by go_num, trivial, HM.out⟩
        case measure => simp [intOf]; omega
    · rw [List.drop_eq_nil_of_le (by omega)] at hm
      have HM : Hid (¬ n ∈ xs) := fun q => by simpa using hm.1 q
      clear hm
      go_wp2_with fail
      go_ret
      exact ⟨by rw [decide_eq_false HM.out]; rfl, rfl⟩

set_option maxHeartbeats 1000000 in
theorem put_has (xs : List Int) (p : Option Addr) (q : Nat) (n : Int) (w : World) (hl : xs.length ≤ 1000000000) (hr : Rising xs) (hin : n ∈ xs) (h : IntsAt w p xs) :
    Calls Try.prog 20 #[.slice p xs.length q, .int .i64 n] w fun e w' => e = .returned (.slice p xs.length q) ∧ w = w' := by
  have H := Lib.hid h; clear h
  go_enter Try.func20, Try.ntmps20
  go_wp2_with fail
  go_loopw [5] (fun s5 wr => ∃ i : Nat, i ≤ xs.length ∧ s5 = .int .i64 i ∧ w = wr ∧ ∀ x ∈ xs.take i, x < n) (fun s5 _ => xs.length - (intOf s5).toNat)
  case atStart => exact ⟨0, Nat.zero_le _, rfl, rfl, by simp⟩
  case round =>
    obtain ⟨i, hi, rfl, rfl, hm⟩ := hrel
    have HM := Lib.hid hm; clear hm
    have hlt : i < xs.length := by
      rcases Nat.lt_or_ge i xs.length with h | h
      · exact h
      · have := HM.out n (by rw [List.take_of_length_le h]; exact hin)
        omega
    obtain ⟨x, hx⟩ : ∃ x, xs[i]? = some x := ⟨_, List.getElem?_eq_getElem hlt⟩
    obtain ⟨b, o, rfl, hb, c0⟩ := H.out i x hx
    by_cases hxn : x < n
    · have HM2 : Hid (∀ y ∈ xs.take (i + 1), y < n) := by
        intro y hy
        rw [List.take_add_one, hx] at hy
        rcases List.mem_append.1 hy with q | q
        · exact HM.out y q
        · simp at q; omega
      clear hx
      go_wp2_with fail
      go_roundw
      case rel => exact ⟨i + 1, by omega, by go_num, trivial, HM2.out⟩
      case measure => simp [intOf]; omega
    · have he : x = n := by
        have hd := int_drop hx
        have hs : xs = xs.take i ++ x :: xs.drop (i + 1) := by rw [← hd, List.take_append_drop]
        have h1 : n ∈ xs.take i ++ x :: xs.drop (i + 1) := by rw [← hs]; exact hin
        rcases List.mem_append.1 h1 with q | q
        · have := HM.out n q; omega
        · rcases List.mem_cons.1 q with q | q
          · exact q.symm
          · unfold Rising at hr
            rw [hs, List.pairwise_append] at hr
            have := (List.pairwise_cons.1 hr.2.1).1 n q
            omega
      subst he
      clear hx hr hin
      go_wp2_with fail
      go_ret
      exact ⟨rfl, rfl⟩

end Go.Proofs.Ytlgfegjfhagncaa
