/-
  What is proved here: the device as a part of memory ('devRes'): each call of it, beside whatever other parts.
  Conditions: at most a million writes are held back.
-/
import Derived.Test.YtaipjialomjhhaaDevNew
import Derived.Test.YtaipjialomjhhaaSep
namespace Go.Proofs.Ytaipjialomjhhaa
open Go.RowKit

def devRes (b : Nat) (d : DevS) : Res where
  at' W F := IsDev W b F d
  lt h := h.lt
  only h ho hd := h.only ho hd

/-- A call of the device at b: it answers v and leaves the device d. -/
def DevTo (b : Nat) (v : Value) (d : DevS) (e : Ending) (R : Res) : Prop := e = .returned v ∧ R = devRes b d

theorem does_dev {f : FuncId} {args : Array Value} {W : World} {b : Nat} {d d' : DevS} {v : Value} (h : ∀ F, IsDev W b F d → Calls Try.prog f args W (DevDid b F W v d')) : Does Try.prog f args W (devRes b d) (DevTo b v d') := by
  intro F hF
  refine (h F hF).mono ?_
  rintro e W' ⟨F', he, hd, ho, hw⟩
  exact ⟨_, F', ⟨he, rfl⟩, hd, ho, hw⟩

section
variable {w W : World} {b : Nat} {d : DevS} {l : List Res}

theorem sep_write (at' : Int) (s : ByteArray) (h : Sep w W (devRes b d :: l)) (hk : d.held.length ≤ 1000000) :
    Calls Try.prog 10 #[.pointer (some ⟨b, 0, none⟩), .int .i64 at', .string s] W fun e W' => e = .returned (.int .i64 (d.write at' s).1) ∧ Sep w W' (devRes b (d.write at' s).2 :: l) := by
  refine ((does_dev fun F hF => dev_write b F d at' s W hF hk).sep h).mono ?_
  rintro e W' ⟨R', ⟨he, rfl⟩, hs⟩
  exact ⟨he, hs⟩

theorem sep_flush (h : Sep w W (devRes b d :: l)) (hk : d.held.length ≤ 1000000) :
    Calls Try.prog 13 #[.pointer (some ⟨b, 0, none⟩)] W fun e W' => e = .returned (.int .i64 d.flush.1) ∧ Sep w W' (devRes b d.flush.2 :: l) := by
  refine ((does_dev fun F hF => dev_flush b F d W hF hk).sep h).mono ?_
  rintro e W' ⟨R', ⟨he, rfl⟩, hs⟩
  exact ⟨he, hs⟩

theorem sep_crash (kv : Value) (keep : List Int) (h : Sep w W (devRes b d :: l)) (hk : d.held.length ≤ 1000000) (hi : ∀ F, IsDev W b F d → IntsIn W F kv keep) (hkl : keep.length ≤ 1000000000) :
    Calls Try.prog 15 #[.pointer (some ⟨b, 0, none⟩), kv] W fun e W' => e = .returned (.tuple #[]) ∧ Sep w W' (devRes b (d.crash keep) :: l) := by
  refine ((does_dev fun F hF => dev_crash b F d kv keep W hF hk (hi F hF) hkl).sep h).mono ?_
  rintro e W' ⟨R', ⟨he, rfl⟩, hs⟩
  exact ⟨he, hs⟩

/-- The list of what is kept may lie in the second part. -/
theorem sep_crash2 {R : Res} (kv : Value) (keep : List Int) (h : Sep w W (devRes b d :: R :: l)) (hk : d.held.length ≤ 1000000) (hi : ∀ F G, IsDev W b F d → R.at' W G → (∀ k ∈ F, k ∉ G) → IntsIn W F kv keep) (hkl : keep.length ≤ 1000000000) :
    Calls Try.prog 15 #[.pointer (some ⟨b, 0, none⟩), kv] W fun e W' => e = .returned (.tuple #[]) ∧ Sep w W' (devRes b (d.crash keep) :: R :: l) := by
  obtain ⟨F, ⟨F1, F2, rfl, h1, h2, h3⟩, h4, h5⟩ := h
  have h2' := h2
  obtain ⟨G1, G2, rfl, g1, g2, g3⟩ := h2'
  refine (dev_crash b F1 d kv keep W h1 hk (hi F1 G1 h1 g1 (fun k hk q => h3 k hk (List.mem_append_left _ q))) hkl).mono ?_
  rintro e W' ⟨F', he, hd, ho, hw⟩
  exact ⟨he, Sep.turnAt (R := devRes b d) (R' := devRes b (d.crash keep)) h1 h2 h3 h4 h5 hd ho hw⟩

theorem sep_crash_nil (h : Sep w W (devRes b d :: l)) (hk : d.held.length ≤ 1000000) :
    Calls Try.prog 15 #[.pointer (some ⟨b, 0, none⟩), .slice none 0 0] W fun e W' => e = .returned (.tuple #[]) ∧ Sep w W' (devRes b (d.crash []) :: l) :=
  sep_crash (.slice none 0 0) [] h hk (fun _ _ => .inl ⟨0, rfl, rfl⟩) (by simp)

theorem sep_refuse (n : Int) (h : Sep w W (devRes b d :: l)) (hn : n ≤ 9223372036854775807) :
    Calls Try.prog 19 #[.pointer (some ⟨b, 0, none⟩), .int .i64 n] W fun e W' => e = .returned (.tuple #[]) ∧ Sep w W' (devRes b (d.refuse n) :: l) := by
  refine ((does_dev fun F hF => dev_refuse b F d n W hF hn).sep h).mono ?_
  rintro e W' ⟨R', ⟨he, rfl⟩, hs⟩
  exact ⟨he, hs⟩
theorem sep_arm (n : Int) (h : Sep w W (devRes b d :: l)) (hn1 : -9223372036854775808 ≤ n) (hn : n ≤ 9223372036854775807) :
    Calls Try.prog 18 #[.pointer (some ⟨b, 0, none⟩), .int .i64 n] W fun e W' => e = .returned (.tuple #[]) ∧ Sep w W' (devRes b (d.arm n) :: l) := by
  refine ((does_dev fun F hF => dev_arm b F d n W hF hn1 hn).sep h).mono ?_
  rintro e W' ⟨R', ⟨he, rfl⟩, hs⟩
  exact ⟨he, hs⟩

theorem sep_read (at' : Int) (h : Sep w W (devRes b d :: l)) :
    Calls Try.prog 14 #[.pointer (some ⟨b, 0, none⟩), .int .i64 at'] W fun e W' => e = .returned (.tuple #[.string (d.read at').1, .int .i64 (d.read at').2]) ∧ W = W' := by
  obtain ⟨F, h1, _⟩ := h.first
  exact dev_read b F d at' W h1
theorem sep_down (h : Sep w W (devRes b d :: l)) :
    Calls Try.prog 17 #[.pointer (some ⟨b, 0, none⟩)] W fun e W' => e = .returned (.bool d.down) ∧ W = W' := by
  obtain ⟨F, h1, _⟩ := h.first
  exact dev_down b F d W h1
theorem sep_held (h : Sep w W (devRes b d :: l)) :
    Calls Try.prog 16 #[.pointer (some ⟨b, 0, none⟩)] W fun e W' => e = .returned (.int .i64 d.held.length) ∧ W = W' := by
  obtain ⟨F, h1, _⟩ := h.first
  exact dev_held b F d W h1
theorem sep_sectors (h : Sep w W (devRes b d :: l)) :
    Calls Try.prog 33 #[.pointer (some ⟨b, 0, none⟩)] W fun e W' => e = .returned (.int .i64 d.now.length) ∧ W = W' := by
  obtain ⟨F, h1, _⟩ := h.first
  exact dev_sectors b F d W h1
theorem sep_ops (h : Sep w W (devRes b d :: l)) :
    Calls Try.prog 20 #[.pointer (some ⟨b, 0, none⟩)] W fun e W' => e = .returned (.int .i64 d.ops) ∧ W = W' := by
  obtain ⟨F, h1, _⟩ := h.first
  exact dev_ops b F d W h1
theorem sep_wf (h : Sep w W (devRes b d :: l)) : d.Wf := by
  obtain ⟨F, h1, _⟩ := h.first
  exact IsDev.wf h1
end

/-- 'New', beside whatever parts. -/
theorem sep_new {w W : World} {l : List Res} (h : Sep w W l) (n : Nat) (h1 : 1 ≤ n) (h2 : n ≤ 8192) :
    Calls Try.prog 8 #[.int .i64 n] W fun e W' => ∃ b, e = .returned (.tuple #[.pointer (some ⟨b, 0, none⟩), .int .i64 0]) ∧ Sep w W' (devRes b (DevS.new n) :: l) := by
  refine (new_walk n W h1 h2).mono ?_
  rintro e W' ⟨b, F, he, hd, ho, hw⟩
  exact ⟨b, he, h.made (R := devRes b (DevS.new n)) hd ho hw⟩

end Go.Proofs.Ytaipjialomjhhaa
