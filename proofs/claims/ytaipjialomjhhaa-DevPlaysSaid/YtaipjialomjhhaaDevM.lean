/-
  What is said here: the device as plain data (no memory of the model, no program): what each call on it answers, and what it is behind it.
  No condition.
-/
import Derived.Test.YtaipjialomjhhaaKit
namespace Go.Proofs.Ytaipjialomjhhaa
open Go.RowKit

structure DevS where
  now : List ByteArray
  safe : List ByteArray
  held : List (Nat × ByteArray)
  armed : Bool
  left : Int
  refused : Int
  ops : Int

namespace DevS

def zero : ByteArray := ⟨(List.replicate 512 (0 : UInt8)).toArray⟩
def new (n : Nat) : DevS := ⟨List.replicate n zero, List.replicate n zero, [], false, 0, 0, 0⟩

def down (d : DevS) : Bool := d.armed && decide (d.left ≤ 0)
def did (d : DevS) : DevS := { d with ops := wrap64 (d.ops + 1), left := if d.armed = true then d.left - 1 else d.left }
def read (d : DevS) (at' : Int) : ByteArray × Int :=
  if 0 ≤ at' ∧ at' < d.now.length then (if d.down = true then (ByteArray.empty, 41) else (d.now.getD at'.toNat ByteArray.empty, 0)) else (ByteArray.empty, 40)
/-- The write that is OK. -/
def store (d : DevS) (at' : Int) (s : ByteArray) : DevS := did { d with now := d.now.set at'.toNat s, held := d.held ++ [(at'.toNat, s)] }
def write (d : DevS) (at' : Int) (s : ByteArray) : Int × DevS :=
  if 0 ≤ at' ∧ at' < d.now.length then
    (if s.size = 512 then
      (if d.down = true then (41, d)
       else if d.refused = 1 then (42, { d with refused := 0 })
       else (0, store { d with refused := if 0 < d.refused then d.refused - 1 else d.refused } at' s))
     else (2, d))
  else (40, d)

def put (l : List ByteArray) (p : Nat × ByteArray) : List ByteArray := l.set p.1 p.2
def flush (d : DevS) : Int × DevS :=
  if d.down = true then (41, d) else (0, did { d with safe := d.held.foldl put d.safe, held := [] })
def refuse (d : DevS) (n : Int) : DevS := { d with refused := max n 0 }
def arm (d : DevS) (n : Int) : DevS := { d with armed := decide (0 ≤ n), left := n }

def kept (code : Int) : Nat := if code = 1 then 512 else if 2 ≤ code ∧ code ≤ 513 then (code - 2).toNat else 0
/-- n bytes of the one, and the rest of the other. -/
def torn (s t : ByteArray) (n : Nat) : ByteArray := ⟨(s.data.toList.take n ++ t.data.toList.drop n).toArray⟩
def tear (l : List ByteArray) (p : (Nat × ByteArray) × Int) : List ByteArray := l.set p.1.1 (torn p.1.2 (l.getD p.1.1 ByteArray.empty) (kept p.2))
/-- What is safe behind a crash. -/
def crashed (d : DevS) (keep : List Int) : List ByteArray := (d.held.zip keep).foldl tear d.safe
def back (safe : List ByteArray) (l : List ByteArray) (p : Nat × ByteArray) : List ByteArray := l.set p.1 (safe.getD p.1 ByteArray.empty)
def crash (d : DevS) (keep : List Int) : DevS :=
  { d with safe := d.crashed keep, now := d.held.foldl (back (d.crashed keep)) d.now, held := [], armed := false, refused := 0 }

end DevS
end Go.Proofs.Ytaipjialomjhhaa
