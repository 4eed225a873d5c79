/-
  What is said here: a page's rows as plain data, its bytes ('enc'), what reads them ('rowsM'), and the calls on a page, with no program in sight.
  No condition.
-/
import Derived.Test.YtbikgahobkbpaaaNum
namespace Go.Proofs.Ytbikgahobkbpaaa

/-- A slot. -/
structure RowD where
  s : ByteArray
  there : Bool

def RowD.free : RowD := ⟨⟨#[]⟩, false⟩

/-- How many bytes rows take. -/
def tookOf : List RowD → Nat
  | [] => 0
  | r :: l => r.s.size + tookOf l
def took (l : List RowD) : Nat := 4 + 4 * l.length + tookOf l

def sizeNo (r : RowD) : Nat := if r.there = true then r.s.size + 1 else 0
def heads (l : List RowD) : List UInt8 := l.flatMap fun r => varint (sizeNo r)
def bodies (l : List RowD) : List UInt8 := l.flatMap fun r => r.s.data.toList
def encL (l : List RowD) : List UInt8 := varint l.length ++ heads l ++ bodies l
/-- A page's bytes. -/
def enc (l : List RowD) : ByteArray := ⟨(encL l ++ List.replicate (512 - (encL l).length) 0).toArray⟩

/-- So many sizes, from a place on. -/
def readSizes (p : ByteArray) : Nat → Nat → Option (List Nat × Nat)
  | 0, k => some ([], k)
  | j + 1, k => match numAt p k with
    | none => none
    | some (n, z) => if 401 < n then none else (readSizes p j (k + z)).map fun r => (n :: r.1, r.2)

/-- The rows of such sizes, from a place on. -/
def cutRows (p : ByteArray) : List Nat → Nat → Option (List RowD)
  | [], _ => some []
  | 0 :: xs, k => (cutRows p xs k).map (RowD.free :: ·)
  | (n + 1) :: xs, k => if p.size < k + n then none else (cutRows p xs (k + n)).map (⟨p.extract k (k + n), true⟩ :: ·)

def lastFree (l : List RowD) : Bool := match l.getLast? with | none => false | some r => !r.there

def rowsM3 (p : ByteArray) (xs : List Nat) (k : Nat) : Option (List RowD) :=
  match cutRows p xs k with
  | none => none
  | some l => if 512 < took l ∨ lastFree l = true ∨ enc l ≠ p then none else some l
def rowsM2 (p : ByteArray) (n z : Nat) : Option (List RowD) :=
  match readSizes p n z with
  | none => none
  | some (xs, k) => rowsM3 p xs k
/-- A page's rows. -/
def rowsM (p : ByteArray) : Option (List RowD) :=
  if p.size = 512 then
    match numAt p 0 with
    | none => none
    | some (n, z) => if 127 < n then none else rowsM2 p n z
  else none

/-- The lowest free slot. -/
def lowest : List RowD → Nat
  | [] => 0
  | r :: l => if r.there = true then lowest l + 1 else 0

def has (l : List RowD) (k : Int) : Bool := decide (0 ≤ k) && decide (k < l.length) && (l.getD k.toNat RowD.free).there
/-- The rows with a row in a slot, or in a new one behind the last. -/
def putL (l : List RowD) (k : Nat) (s : ByteArray) : List RowD := if k = l.length then l ++ [⟨s, true⟩] else l.set k ⟨s, true⟩

theorem numAt_le {s : ByteArray} {k n z : Nat} (h : numAt s k = some (n, z)) (hk : k ≤ s.size) : k + z ≤ s.size := by
  have key : ∀ (l : List UInt8) (i acc : Nat), readNum l i acc = some (n, z) → z ≤ i + l.length := by
    intro l
    induction l with
    | nil => intro i acc h; simp [readNum] at h
    | cons c t ih =>
      intro i acc h
      simp only [readNum] at h
      split at h
      · cases h
      · split at h
        · cases h
        · split at h
          · simp only [Option.some.injEq, Prod.mk.injEq] at h
            simp; omega
          · have := ih _ _ h
            simp; omega
  have := key _ _ _ h
  simp only [List.length_drop, Array.length_toList] at this
  have e : s.data.size = s.size := rfl
  omega

theorem varint_small {n : Nat} (h : n < 16384) : (varint n).length ≤ 2 := by
  rw [varint]
  split
  · simp
  · rw [varint]
    rw [if_pos (by omega)]
    simp

theorem heads_length (l : List RowD) (h : ∀ r ∈ l, r.s.size < 16383) : (heads l).length ≤ 2 * l.length := by
  induction l with
  | nil => simp [heads]
  | cons r l ih =>
    have h1 : (varint (sizeNo r)).length ≤ 2 := varint_small (by unfold sizeNo; have := h r (by simp); split <;> omega)
    have h2 := ih (fun r hr => h r (by simp [hr]))
    simp only [heads, List.flatMap_cons, List.length_append, List.length_cons] at h2 ⊢
    omega

theorem bodies_length (l : List RowD) : (bodies l).length = tookOf l := by
  induction l with
  | nil => rfl
  | cons r l ih =>
    simp only [bodies, List.flatMap_cons, List.length_append, tookOf] at ih ⊢
    rw [ih]
    rfl

theorem size_le_tookOf {l : List RowD} : ∀ r ∈ l, r.s.size ≤ tookOf l := by
  induction l with
  | nil => simp
  | cons r l ih =>
    intro x hx
    simp only [tookOf]
    rcases List.mem_cons.1 hx with rfl | hx
    · omega
    · have := ih x hx; omega

theorem encL_length {l : List RowD} (h : took l ≤ 512) : (encL l).length ≤ took l := by
  unfold took at h ⊢
  have h1 : (varint l.length).length ≤ 2 := varint_small (by omega)
  have h2 := heads_length l (fun r hr => by have := size_le_tookOf r hr; omega)
  have h3 := bodies_length l
  simp only [encL, List.length_append]
  omega

theorem enc_size {l : List RowD} (h : took l ≤ 512) : (enc l).size = 512 := by
  have := encL_length h
  show (enc l).data.size = 512
  simp [enc]
  omega

end Go.Proofs.Ytbikgahobkbpaaa
