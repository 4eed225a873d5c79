/-
  What is proved here: small lemmas on bytes: a slice of bytes made a text, for any program.
  No condition: each lemma names its own.
-/
import Derived.Test.YtipfjjcokajjjaaDoorKit
namespace Go.Proofs.YtipfjjcokajjjaaDoor
open Go.RowKit

/-- Bytes as cells. -/
def byteCells (l : List UInt8) : List Value := l.map fun x => Value.int .u8 (x.toNat : Int)

theorem foldl_push_bytes (l : List UInt8) : ∀ s : ByteArray, (l.map fun x => (x.toNat : Int)).foldl (fun r n => r.push (UInt8.ofNat n.toNat)) s = ⟨s.data ++ l.toArray⟩ := by
  induction l with
  | nil => intro s; simp
  | cons x l ih =>
    intro s
    simp only [List.map_cons, List.foldl_cons, ih]
    simp only [Int.toNat_natCast, UInt8.ofNat_toNat]
    congr 1
    show (s.data.push x) ++ l.toArray = _
    apply Array.ext'
    simp

/-- 'string(b)' of bytes whose cells are known. -/
theorem run_bytes_text {P : Program} (w : World) (src dst e : TypeId) (a : Addr) (l : List UInt8) (c : Nat)
    (hs : P.underlying src = some (.slice e)) (he : P.underlying e = some (.int .u8)) (hd : P.underlying dst = some .string)
    (h : ∀ j x, l[j]? = some x → w.cell? (a.add j) = some (.int .u8 (x.toNat : Int))) :
    (convert src dst (.slice (some a) l.length c)).run P w = .ok (.string ⟨l.toArray⟩) w := by
  rw [run_convert_bytes_string w src dst e (some a) l.length c hs he hd, run_bytesToString w a l.length c (l.map fun x => (x.toNat : Int)) ?_, foldl_push_bytes]
  · congr 2
    simp
  · have := run_loadCells_list (P := P) w a (byteCells l) (fun j v hv => by
      simp only [byteCells, List.getElem?_map, Option.map_eq_some_iff] at hv
      obtain ⟨x, hx, rfl⟩ := hv
      exact h j x hx)
    simp only [byteCells, List.length_map] at this
    rw [this]
    congr 2
    simp

theorem run_bytes_text_block {P : Program} (w : World) (src dst e : TypeId) (g : Nat) (l : List UInt8) (c : Nat) {e' : TypeId} {f : Nat × Nat}
    (hs : P.underlying src = some (.slice e)) (he : P.underlying e = some (.int .u8)) (hd : P.underlying dst = some .string)
    (h : w.heap[g]? = some (.cells (byteCells l).toArray e' f)) :
    (convert src dst (.slice (some ⟨g, 0, none⟩) l.length c)).run P w = .ok (.string ⟨l.toArray⟩) w := by
  refine run_bytes_text w src dst e ⟨g, 0, none⟩ l c hs he hd ?_
  intro j x hx
  have hadd : (⟨g, 0, none⟩ : Addr).add j = ⟨g, j, none⟩ := by unfold Addr.add; split <;> simp_all
  rw [hadd]
  refine cell_of_block h j ?_
  simp [byteCells, hx]

theorem byteCells_set (l : List UInt8) (k : Nat) (x : UInt8) : (byteCells l).toArray.setIfInBounds k (.int .u8 (x.toNat : Int)) = (byteCells (l.set k x)).toArray := by
  simp [byteCells, List.map_set]

theorem text_eq_self (a : ByteArray) : (a == a) = true := (MapKept.bytes_beq a a).2 rfl
theorem text_ne_self (a : ByteArray) : (a != a) = false := by
  unfold bne
  rw [text_eq_self]; rfl
theorem text_eq_false {a b : ByteArray} (h : a ≠ b) : (a == b) = false := by
  cases e : (a == b)
  · rfl
  · exact absurd ((MapKept.bytes_beq a b).1 e) h
theorem text_ne_true {a b : ByteArray} (h : a ≠ b) : (a != b) = true := by
  unfold bne
  rw [text_eq_false h]; rfl

end Go.Proofs.YtipfjjcokajjjaaDoor
