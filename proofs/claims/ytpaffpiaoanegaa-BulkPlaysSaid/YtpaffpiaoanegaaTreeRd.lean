/-
  What is proved here: the document's tree: how deep a tree may be.
  No condition: each lemma names its own.
-/
import Derived.Test.YtpaffpiaoanegaaTreeI
set_option linter.unusedVariables false
set_option linter.unusedSimpArgs false
namespace Go.Proofs.Ytpaffpiaoanegaa
open Go.RowKit

/-! ## Depth -/

/-- How deep the document lets a tree of n keys be. -/
def RDepth (fan n d : Nat) : Prop := (n = 0 → d = 0) ∧ (n ≠ 0 → 1 ≤ d ∧ n + 1 < 2 * (least fan + 1) ^ d) ∧ d ≤ 6000

set_option maxHeartbeats 50000 in
theorem rdepth_any {W : World} (n fan : Nat) (h3 : 3 ≤ fan) (h64 : fan ≤ 64) (hn : n ≤ 5000) :
    Calls Try.prog 22 #[.int .i64 n, .int .i64 fan] W fun r W' => (∃ d : Nat, r = .returned (.int .i64 d) ∧ RDepth fan n d) ∧ W = W' := by
  by_cases h0 : n = 0
  · subst h0
    go_enter Try.func22, Try.ntmps22
    go_wp2_with fail
    go_ret
    exact ⟨⟨0, rfl, fun _ => rfl, fun h => absurd rfl h, by omega⟩, rfl⟩
  · have hn0 : ¬ ((n : Int) = 0) := by omega
    have hh : ((fan : Int) + 1) / 2 = ((least fan + 1 : Nat) : Int) := by unfold least; omega
    have hh2 : 2 ≤ least fan + 1 := by unfold least; omega
    have hh3 : least fan + 1 ≤ 32 := by unfold least; omega
    obtain ⟨c, hc⟩ : ∃ c, c = least fan + 1 := ⟨_, rfl⟩
    have HRD : Hid (∀ d, 1 ≤ d → d ≤ 6000 → n + 1 < 2 * c ^ d → RDepth fan n d) := by
      intro d h1 h2 h3
      rw [hc] at h3
      exact ⟨fun h => absurd h h0, fun _ => ⟨h1, h3⟩, h2⟩
    rw [← hc] at hh hh2 hh3
    have HC := Lib.hid hc
    have HH := Lib.hid hh
    clear hc hh
    go_enter Try.func22, Try.ntmps22
    go_wp2_with fail
    go_loopw [5, 6] (fun s5 s6 wr => ∃ (d p : Nat), s5 = .int .i64 d ∧ s6 = .int .i64 p ∧ p = 2 * c ^ d ∧ p ≤ n + 1 ∧ d + 1 ≤ p ∧ W = wr) (fun s5 _ _ => n + 2 - (intOf s5).toNat)
    case atStart => exact ⟨0, 2, rfl, rfl, by simp, by omega, by omega, rfl⟩
    case round =>
      obtain ⟨d, p, rfl, rfl, hp, hpn, hdp, rfl⟩ := hrel
      have HP := Lib.hid hp
      clear hp
      obtain ⟨pc, hpc⟩ : ∃ pc : Nat, pc = p * c := ⟨_, rfl⟩
      have hb1 : 2 * p ≤ pc := by rw [hpc, Nat.mul_comm]; exact Nat.mul_le_mul_left _ hh2
      have hb2 : pc ≤ p * 32 := by rw [hpc]; exact Nat.mul_le_mul_left _ hh3
      have hpi : (p : Int) * (((fan : Int) + 1) / 2) = (pc : Int) := by rw [HH.out, hpc]; exact (Int.natCast_mul _ _).symm
      have HPC := Lib.hid hpc
      clear hpc
      have hwr : wrap64 ((p : Int) * (((fan : Int) + 1) / 2)) = (pc : Int) := by rw [hpi]; exact IntWalk.wrap64_in _ ⟨by omega, by omega⟩
      clear hpi
      by_cases hle : pc ≤ n + 1
      · have hle' : (pc : Int) ≤ (n : Int) + 1 := by omega
        have hnext : pc = 2 * c ^ (d + 1) := by rw [HPC.out, HP.out, Nat.pow_succ, Nat.mul_assoc]
        have HN := Lib.hid hnext
        clear hnext
        go_wp2_with fail
        go_roundw
        case rel => exact ⟨d + 1, pc, by go_num, by rw [hwr], HN.out, hle, by omega, trivial⟩
        case measure => simp [intOf]; omega
      · have hle' : ¬ ((pc : Int) ≤ (n : Int) + 1) := by omega
        have hend : n + 1 < 2 * c ^ (d + 1) := by
          rw [Nat.pow_succ, ← Nat.mul_assoc, ← HP.out, ← HPC.out]; omega
        have HN := Lib.hid hend
        clear hend
        go_wp2_with fail
        go_ret
        refine ⟨⟨d + 1, ?_, HRD.out _ (by omega) (by omega) HN.out⟩, rfl⟩
        exact congrArg (fun x => Ending.returned (Value.int .i64 x)) (by omega)

/-- A tree is no deeper than the document lets it be. -/
theorem depth_le {fan : Nat} {L : List E} {d e : Nat} (h3 : 3 ≤ fan) (hd : DepthOk fan L d) (hre : RDepth fan L.length e) : d ≤ e ∧ (d = 0 ↔ L.length = 0) := by
  obtain ⟨he0, he, _⟩ := hre
  by_cases hL : L = []
  · have h1 := hd.1 hL
    subst hL
    exact ⟨by omega, by simp [h1]⟩
  · obtain ⟨h1, h2⟩ := hd.2 hL
    have hl : L.length ≠ 0 := fun q => hL (List.eq_nil_of_length_eq_zero q)
    obtain ⟨h4, h5⟩ := he hl
    refine ⟨?_, by omega⟩
    have h6 : 2 * (least fan + 1) ^ (d - 1) < 2 * (least fan + 1) ^ e := Nat.lt_of_le_of_lt h2 h5
    have h7 : (least fan + 1) ^ (d - 1) < (least fan + 1) ^ e := by omega
    have h8 : d - 1 < e := (Nat.pow_lt_pow_iff_right (by unfold least; omega)).1 h7
    omega

end Go.Proofs.Ytpaffpiaoanegaa
