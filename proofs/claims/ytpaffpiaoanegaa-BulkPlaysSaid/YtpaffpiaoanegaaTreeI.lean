/-
  What is proved here: how many keys a tree has, and how deep it is (Len, Depth of package tree).
  No condition: each lemma names its own.
-/
import Derived.Test.YtpaffpiaoanegaaTreeH
set_option linter.unusedVariables false
set_option linter.unusedSimpArgs false
namespace Go.Proofs.Ytpaffpiaoanegaa
open Go.RowKit

theorem len_any {W : World} {q fan : Nat} {L : List E} (hT : TreeAt W q fan L) :
    Calls Try.prog 26 #[.pointer (some ⟨q, 0, none⟩)] W fun r W' => r = .returned (.int .i64 L.length) ∧ W = W' := by
  obtain ⟨p, h, t, hb, hn, hr, hL, hf1, hf2⟩ := hT.open
  have k2 := cell_of_block hb 2 (v := .int .i64 L.length) rfl
  clear hb hT hn hr hL
  go_enter Try.func26, Try.ntmps26
  go_wp2_with fail
  go_ret
  exact ⟨rfl, rfl⟩

/-- How deep a tree may be. -/
def DepthOk (fan : Nat) (L : List E) (d : Nat) : Prop := (L = [] → d = 0) ∧ (L ≠ [] → 1 ≤ d ∧ 2 * (least fan + 1) ^ (d - 1) ≤ L.length + 1)

set_option maxRecDepth 100000 in
set_option maxHeartbeats 1000000 in
theorem depth_any {W : World} {q fan : Nat} {L : List E} (hT : TreeAt W q fan L) (hlen : L.length ≤ 100000) :
    Calls Try.prog 21 #[.pointer (some ⟨q, 0, none⟩)] W fun r W' => (∃ d : Nat, r = .returned (.int .i64 d) ∧ DepthOk fan L d ∧ d ≤ 100000) ∧ W = W' := by
  obtain ⟨p, h, t, hb, hn, hr, hL, hf1, hf2⟩ := hT.open
  have k2 := cell_of_block hb 2 (v := .int .i64 L.length) rfl
  have k1 := cell_of_block hb 1 (v := .pointer (some ⟨p, 0, none⟩)) rfl
  by_cases h0 : L = []
  · subst h0
    rw [show ((([] : List E).length : Nat) : Int) = 0 from rfl] at k2
    clear hb hT hn hr hL
    go_enter Try.func21, Try.ntmps21
    go_wp2_with fail
    go_ret
    exact ⟨⟨0, rfl, ⟨fun _ => rfl, fun h => absurd rfl h⟩, by omega⟩, rfl⟩
  · have hpos : 0 < L.length := List.length_pos_iff.2 h0
    have hpos' : ¬ ((L.length : Int) = 0) := by omega
    have hcnt : 2 * (least fan + 1) ^ h ≤ L.length + 1 := by rw [← hL]; exact count_root hr (by rw [hL]; exact h0)
    have hh : h + 1 ≤ 100000 := by
      have h2 : h < 2 ^ h := Nat.lt_two_pow_self
      have h3 : 2 ^ h ≤ (least fan + 1) ^ h := Nat.pow_le_pow_left (by unfold least; omega) h
      omega
    have HC := Lib.hid hcnt
    have HN := Lib.hid hn
    have HR := Lib.hid hr.kd
    have H0 := Lib.hid h0
    clear hb hT hn hr hL hcnt h0
    go_enter Try.func21, Try.ntmps21
    go_wp2_with fail
    go_loopg [3, 4] h (fun k s3 s4 wr => ∃ (d p' : Nat) (t' : T), s3 = .int .i64 d ∧ s4 = .pointer (some ⟨p', 0, none⟩) ∧ NodeAt k W p' t' ∧ Kd fan k t' ∧ d + k = h + 1 ∧ W = wr)
    case atStart => exact ⟨1, p, t, by go_num, rfl, HN.out, HR.out, by omega, rfl⟩
    case round =>
      clear HN HR k1 k2
      obtain ⟨d, p', t', rfl, rfl, hn, hk, hd, rfl⟩ := hrel
      obtain ⟨kp, kq, cp, cq, ps, hpl, hb, hkr, hcr, hsub⟩ := hn.open
      have k1 := cell_of_block hb 1 (v := .slice cp ps.length cq) rfl
      have HK := Lib.hid hk
      cases gk with
      | zero =>
        have h0 : ps.length = 0 := by rw [hpl, show t'.kids = [] from hk]; rfl
        rw [h0] at k1
        have HD : Hid (d = h + 1) := by show d = h + 1; omega
        clear hn hb hkr hcr hsub hk hpl hd
        go_wp2_with fail
        go_ret
        refine ⟨⟨d, rfl, ⟨fun q => absurd q H0.out, fun _ => ⟨by have := HD.out; omega, ?_⟩⟩, by have := HD.out; omega⟩, rfl⟩
        rw [HD.out]; exact HC.out
      | succ gk =>
        obtain ⟨q', hq', hn'⟩ := NodeAt.kid (W := W) (p := p') hpl hk hsub (i := 0) (by omega)
        obtain ⟨gc, rfl, c3⟩ := kid_cell hcr hq'
        have hpl0 : 0 < ps.length := by have := hk.1; omega
        have hkc : Kd fan gk t'.kids[0]! := (hk.2 _ (by rw [getElem!_pos t'.kids 0 (by have := hk.1; omega)]; exact List.getElem_mem _)).1
        have HN' := Lib.hid hn'
        have HKC := Lib.hid hkc
        have hd1 : (d : Int) ≤ 100000 := by omega
        clear hn hb hkr hcr hsub hk hpl hn' hkc hq'
        go_wp2_with fail
        go_roundg gk
        case measure => omega
        case rel => exact ⟨d + 1, q', t'.kids[0]!, by go_num, rfl, HN'.out, HKC.out, by omega, rfl⟩

end Go.Proofs.Ytpaffpiaoanegaa
