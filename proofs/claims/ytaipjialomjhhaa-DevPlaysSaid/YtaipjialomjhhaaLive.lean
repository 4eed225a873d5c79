/-
  What is proved here: a device that was made since a world w ('Live'): each call leaves one, and turns nothing that was there in w.
  Conditions: at most a million writes are held back.
-/
import Derived.Test.YtaipjialomjhhaaDevNew
namespace Go.Proofs.Ytaipjialomjhhaa
open Go.RowKit

/-- The device d lies at b in W; all its blocks are newer than w; nothing of w is turned. -/
def Live (w : World) (b : Nat) (d : DevS) (W : World) : Prop := ∃ F, IsDev W b F d ∧ Only [] w W ∧ Within w [] F

theorem Live.of_made {n : Nat} {w W W' : World} (hw : Only [] w W) {e : Ending} (h : Made n W e W') : ∃ b, e = .returned (.tuple #[.pointer (some ⟨b, 0, none⟩), .int .i64 0]) ∧ Live w b (DevS.new n) W' := by
  obtain ⟨b, F, he, hd, ho, hi⟩ := h
  exact ⟨b, he, F, hd, hw.trans ho (Within.nil _ _), Within.trans (G := []) hw.size (Within.nil _ _) hi⟩

theorem Live.only {w W W' : World} {b : Nat} {d : DevS} (h : Live w b d W) (ho : Only [] W W') : Live w b d W' := by
  obtain ⟨F, h1, h2, h3⟩ := h
  exact ⟨F, h1.only ho (by simp), h2.trans ho (Within.nil _ _), h3⟩

theorem Live.did {w W : World} {b : Nat} {d' : DevS} {F : List Nat} {v : Value} {e : Ending} {W' : World} (h2 : Only [] w W) (h3 : Within w [] F) (h : DevDid b F W v d' e W') : e = .returned v ∧ Live w b d' W' := by
  obtain ⟨F', he, hd, ho, hw⟩ := h
  refine ⟨he, F', hd, ?_, ?_⟩
  · exact h2.trans ho h3
  · exact Within.trans h2.size h3 hw

theorem Live.wf {w W : World} {b : Nat} {d : DevS} (h : Live w b d W) : d.Wf := by obtain ⟨F, h1, _⟩ := h; exact h1.wf
theorem Live.old {w W : World} {b : Nat} {d : DevS} (h : Live w b d W) : Only [] w W := by obtain ⟨F, _, h1, _⟩ := h; exact h1

theorem live_write (b : Nat) (d : DevS) (at' : Int) (s : ByteArray) (w W : World) (h : Live w b d W) (hk : d.held.length ≤ 1000000) :
    Calls Try.prog 10 #[.pointer (some ⟨b, 0, none⟩), .int .i64 at', .string s] W fun e W' => e = .returned (.int .i64 (d.write at' s).1) ∧ Live w b (d.write at' s).2 W' := by
  obtain ⟨F, h1, h2, h3⟩ := h
  exact (dev_write b F d at' s W h1 hk).mono fun e W' h => Live.did h2 h3 h

theorem live_flush (b : Nat) (d : DevS) (w W : World) (h : Live w b d W) (hk : d.held.length ≤ 1000000) :
    Calls Try.prog 13 #[.pointer (some ⟨b, 0, none⟩)] W fun e W' => e = .returned (.int .i64 d.flush.1) ∧ Live w b d.flush.2 W' := by
  obtain ⟨F, h1, h2, h3⟩ := h
  exact (dev_flush b F d W h1 hk).mono fun e W' h => Live.did h2 h3 h

/-- A list of whole numbers that lay in memory in w, or lies in memory that the device has nothing to do with. -/
theorem live_crash (b : Nat) (d : DevS) (kv : Value) (keep : List Int) (w W : World) (h : Live w b d W) (hk : d.held.length ≤ 1000000) (hi : ∀ F, IsDev W b F d → Within w [] F → IntsIn W F kv keep) (hkl : keep.length ≤ 1000000000) :
    Calls Try.prog 15 #[.pointer (some ⟨b, 0, none⟩), kv] W fun e W' => e = .returned (.tuple #[]) ∧ Live w b (d.crash keep) W' := by
  obtain ⟨F, h1, h2, h3⟩ := h
  exact (dev_crash b F d kv keep W h1 hk (hi F h1 h3) hkl).mono fun e W' h => Live.did h2 h3 h

theorem live_crash_nil (b : Nat) (d : DevS) (w W : World) (h : Live w b d W) (hk : d.held.length ≤ 1000000) :
    Calls Try.prog 15 #[.pointer (some ⟨b, 0, none⟩), .slice none 0 0] W fun e W' => e = .returned (.tuple #[]) ∧ Live w b (d.crash []) W' :=
  live_crash b d (.slice none 0 0) [] w W h hk (fun _ _ _ => .inl ⟨0, rfl, rfl⟩) (by simp)

theorem live_read (b : Nat) (d : DevS) (at' : Int) (w W : World) (h : Live w b d W) :
    Calls Try.prog 14 #[.pointer (some ⟨b, 0, none⟩), .int .i64 at'] W fun e W' => e = .returned (.tuple #[.string (d.read at').1, .int .i64 (d.read at').2]) ∧ W = W' := by
  obtain ⟨F, h1, h2, h3⟩ := h
  exact dev_read b F d at' W h1
theorem live_down (b : Nat) (d : DevS) (w W : World) (h : Live w b d W) :
    Calls Try.prog 17 #[.pointer (some ⟨b, 0, none⟩)] W fun e W' => e = .returned (.bool d.down) ∧ W = W' := by
  obtain ⟨F, h1, h2, h3⟩ := h
  exact dev_down b F d W h1
theorem live_held (b : Nat) (d : DevS) (w W : World) (h : Live w b d W) :
    Calls Try.prog 16 #[.pointer (some ⟨b, 0, none⟩)] W fun e W' => e = .returned (.int .i64 d.held.length) ∧ W = W' := by
  obtain ⟨F, h1, h2, h3⟩ := h
  exact dev_held b F d W h1
theorem live_sectors (b : Nat) (d : DevS) (w W : World) (h : Live w b d W) :
    Calls Try.prog 33 #[.pointer (some ⟨b, 0, none⟩)] W fun e W' => e = .returned (.int .i64 d.now.length) ∧ W = W' := by
  obtain ⟨F, h1, h2, h3⟩ := h
  exact dev_sectors b F d W h1
theorem live_ops (b : Nat) (d : DevS) (w W : World) (h : Live w b d W) :
    Calls Try.prog 20 #[.pointer (some ⟨b, 0, none⟩)] W fun e W' => e = .returned (.int .i64 d.ops) ∧ W = W' := by
  obtain ⟨F, h1, h2, h3⟩ := h
  exact dev_ops b F d W h1
theorem live_refuse (b : Nat) (d : DevS) (n : Int) (w W : World) (h : Live w b d W) (hn : n ≤ 9223372036854775807) :
    Calls Try.prog 19 #[.pointer (some ⟨b, 0, none⟩), .int .i64 n] W fun e W' => e = .returned (.tuple #[]) ∧ Live w b (d.refuse n) W' := by
  obtain ⟨F, h1, h2, h3⟩ := h
  exact (dev_refuse b F d n W h1 hn).mono fun e W' h => Live.did h2 h3 h
theorem live_arm (b : Nat) (d : DevS) (n : Int) (w W : World) (h : Live w b d W) (hn1 : -9223372036854775808 ≤ n) (hn : n ≤ 9223372036854775807) :
    Calls Try.prog 18 #[.pointer (some ⟨b, 0, none⟩), .int .i64 n] W fun e W' => e = .returned (.tuple #[]) ∧ Live w b (d.arm n) W' := by
  obtain ⟨F, h1, h2, h3⟩ := h
  exact (dev_arm b F d n W h1 hn1 hn).mono fun e W' h => Live.did h2 h3 h

end Go.Proofs.Ytaipjialomjhhaa
