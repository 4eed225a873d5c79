/-
  What is proved here: 'key.Make' makes a key ('makeS').
  Condition: no more than a thousand values; the word that the library keeps of its longest index is there.
-/
import Derived.Test.YtfnlgpngnknkmaaDoorBuildK
namespace Go.Proofs.YtfnlgpngnknkmaaDoor
open Go.RowKit Go.Proofs.YtfnlgpngnknkmaaDoor.F Go.Proofs.YtfnlgpngnknkmaaDoorW.PrintWords Go.Proofs.YtfnlgpngnknkmaaDoorW.PrintLast
set_option linter.unusedSimpArgs false
set_option linter.unusedVariables false

def okV (v : ValD) : Bool := goodV v || blankV v
/-- What 'Make' answers. -/
def makeS (l : List ValD) : ByteArray × Int :=
  if l.all okV = true then (if 4096 < (keyL l).length then (⟨#[]⟩, 2) else (⟨(keyL l).toArray⟩, 0)) else (⟨#[]⟩, 11)

theorem part_le {v : ValD} (hv : goodV v = true ∨ blankV v = true) : (partL v).length ≤ 3000 := by
  obtain ⟨k, n, s⟩ := v
  unfold partL
  simp only
  split
  · simp
  · split
    · show 9 ≤ _; decide
    · split
      · rename_i k1 k2 k3
        have hs : s.size ≤ 1024 := by
          rcases hv with h | h
          · subst k3
            have h' : n = 0 ∧ s.size ≤ 1024 := by simpa [goodV] using h
            exact h'.2
          · simp [blankV, k3] at h
        have := esc_le s.data.toList
        rw [list_len] at this
        simp only [List.length_cons, List.length_append, List.length_nil]
        omega
      · simp

def MakePost (l : List ValD) (w : World) (e : Ending) (w' : World) : Prop := e = .returned (.tuple #[.string (makeS l).1, .int .i64 (makeS l).2]) ∧ Only [] w w'

theorem keyL_snoc (l : List ValD) (v : ValD) : keyL (l ++ [v]) = keyL l ++ partL v := by simp [keyL]
theorem keyL_take_le (l : List ValD) (i : Nat) : (keyL (l.take i)).length ≤ (keyL l).length := by
  conv => rhs; rw [← List.take_append_drop i l]
  unfold keyL
  rw [List.flatMap_append, List.length_append]
  omega

theorem take_all {l : List ValD} {i : Nat} {v : ValD} (hv : l[i]? = some v) (ha : (l.take i).all okV = true) (hk : okV v = true) : (l.take (i + 1)).all okV = true := by
  rw [List.take_add_one, hv, List.all_append, ha]
  simp [hk]
theorem makeS_bad {l : List ValD} {i : Nat} {v : ValD} (hv : l[i]? = some v) (hk : okV v = false) : makeS l = (⟨#[]⟩, 11) := by
  unfold makeS
  rw [if_neg]
  intro h
  have := List.all_eq_true.1 h v (List.mem_of_getElem? hv)
  rw [hk] at this
  cases this
theorem makeS_long {l : List ValD} {i : Nat} (ha : l.all okV = true) (h : 4096 < (keyL (l.take i)).length) : makeS l = (⟨#[]⟩, 2) := by
  unfold makeS
  have := keyL_take_le l i
  rw [if_pos ha, if_pos (by omega)]

theorem not_blank {k n : Int} {s : ByteArray} (h : blankV ⟨k, n, s⟩ = false) : k ≠ 0 ∨ (k = 0 ∧ n ≠ 0) ∨ (k = 0 ∧ n = 0 ∧ s.toList ≠ []) := by
  by_cases k0 : k = 0
  · by_cases n0 : n = 0
    · refine .inr (.inr ⟨k0, n0, fun e => ?_⟩)
      have := no_bytes s
      rw [e] at this
      simp [blankV, k0, n0, ← this] at h
    · exact .inr (.inl ⟨k0, n0⟩)
  · exact .inl k0
theorem is_blank {k n : Int} {s : ByteArray} (h : blankV ⟨k, n, s⟩ = true) : k = 0 ∧ n = 0 ∧ s = ⟨#[]⟩ := by
  have h' : k = 0 ∧ n = 0 ∧ s.size = 0 := by simpa [blankV, and_assoc] using h
  refine ⟨h'.1, h'.2.1, ?_⟩
  apply ByteArray.ext
  exact Array.eq_empty_of_size_eq_zero h'.2.2

set_option maxRecDepth 100000 in
set_option maxHeartbeats 1000000 in
theorem make_any (p : Option Addr) (q : Nat) (l : List ValD) (w : World) (h : ValsAt w p (l.map sd)) (hl : l.length ≤ 100000) (hn : ∀ v ∈ l, -9223372036854775808 ≤ v.n ∧ v.n ≤ 9223372036854775807) (hlo : Lo w) :
    Calls Tryd.prog 13 #[.slice p l.length q] w (MakePost l w) := by
  have H := Lib.hid h; clear h
  have HN := Lib.hid hn; clear hn
  have HLO := Lib.hid hlo; clear hlo
  go_enter Tryd.func13, Tryd.ntmps13
  go_wp2_with fail
  go_loopw [11] (fun s11 wr => ∃ i : Nat, i ≤ l.length ∧ s11 = .int .i64 i ∧ Only [] w wr ∧ (l.take i).all okV = true) (fun s11 _ => l.length - (intOf s11).toNat)
  case atStart => exact ⟨0, by omega, rfl, Only.refl _ _, rfl⟩
  case round =>
    obtain ⟨i, hi, rfl, ho, ha⟩ := hrel
    have HO := Lib.hid ho; clear ho
    have HA := Lib.hid ha; clear ha
    by_cases hlt : i < l.length
    · obtain ⟨⟨k, n, s⟩, hv⟩ : ∃ v, l[i]? = some v := ⟨_, List.getElem?_eq_getElem hlt⟩
      obtain ⟨b, o, rfl, hb, c0, c1, c2⟩ := (H.out.only HO.out) i (sd ⟨k, n, s⟩) (by simp [hv])
      simp only [sd] at c0 c1 c2
      have HG := fun W => good_any (sd ⟨k, n, s⟩) W
      simp only [valV, sd, vd] at HG
      by_cases hB : blankV ⟨k, n, s⟩ = true
      · have HA2 := Lib.hid (take_all hv HA.out (by unfold okV; rw [hB]; simp))
        obtain ⟨rfl, rfl, rfl⟩ := is_blank hB
        clear hB hv HG
        go_wp2_with fail
        go_roundw
        case rel => exact ⟨i + 1, by omega, by go_num, HO.out.trans (Only.alloc [] wr _) (Within.nil _ _), HA2.out⟩
        case measure => simp [intOf]; omega
      · have hB' : blankV ⟨k, n, s⟩ = false := by simpa using hB
        clear hB
        cases hG : goodV ⟨k, n, s⟩ with
        | true =>
          have HA2 := Lib.hid (take_all hv HA.out (by unfold okV; rw [hG]; rfl))
          rw [hG] at HG
          clear hv hG
          rcases not_blank hB' with k0 | ⟨rfl, n0⟩ | ⟨rfl, rfl, s0⟩
          all_goals
            clear hB'
            go_wp2_with fail
            refine (HG _).mono ?_
            rintro e w1 ⟨rfl, o1⟩
            have H1 := Lib.hid ((HO.out.trans (Only.alloc [] wr _) (Within.nil _ _)).trans o1 (Within.nil _ _)); clear o1
            go_wp2_with fail
            go_roundw
            case rel => exact ⟨i + 1, by omega, by go_num, H1.out, HA2.out⟩
            case measure => simp [intOf]; omega
        | false =>
          have HR := Lib.hid (makeS_bad hv (by unfold okV; rw [hG, hB']; rfl))
          rw [hG] at HG
          clear hv hG
          rcases not_blank hB' with k0 | ⟨rfl, n0⟩ | ⟨rfl, rfl, s0⟩
          all_goals
            clear hB'
            go_wp2_with fail
            refine (HG _).mono ?_
            rintro e w1 ⟨rfl, o1⟩
            have H1 := Lib.hid ((HO.out.trans (Only.alloc [] wr _) (Within.nil _ _)).trans o1 (Within.nil _ _)); clear o1
            go_wp2_with fail
            go_ret2
            unfold MakePost
            rw [HR.out]
            exact ⟨rfl, H1.out⟩
    · have hall : l.all okV = true := by have := HA.out; rwa [List.take_of_length_le (by omega)] at this
      have HALL := Lib.hid hall; clear hall HA
      go_wp2_with fail
      obtain ⟨wo, rfl⟩ : ∃ wo : World, wo = wr := ⟨_, rfl⟩
      have HLO2 := Lib.hid (HLO.out.only HO.out)
      have HV2 := Lib.hid (H.out.only HO.out)
      go_loopw [26] (fun s26 wq => ∃ i : Nat, i ≤ l.length ∧ s26 = .int .i64 i ∧ BldAt wo wo.heap.size (keyL (l.take i)) wq ∧ (keyL (l.take i)).length ≤ 4096) (fun s26 _ => l.length - (intOf s26).toNat)
      case atStart => exact ⟨0, by omega, rfl, BldAt.new wo, by simp [keyL]⟩
      case round =>
        obtain ⟨i, hi, rfl, hbld, hlen⟩ := hrel
        have HB := Lib.hid hbld; clear hbld
        by_cases hlt2 : i < l.length
        · obtain ⟨v, hv⟩ : ∃ v, l[i]? = some v := ⟨_, List.getElem?_eq_getElem hlt2⟩
          obtain ⟨b, o, rfl, hb, c0, c1, c2⟩ := (HV2.out.only HB.out.old) i (sd v) (by simp [hv])
          have hok : okV v = true := List.all_eq_true.1 HALL.out v (List.mem_of_getElem? hv)
          have hok' : goodV v = true ∨ blankV v = true := by simpa [okV] using hok
          have hP := fun W hW => part_any v W hok' (HN.out v (List.mem_of_getElem? hv)) hW
          simp only [valV] at hP
          have hpl := part_le hok'
          have hk : keyL (l.take (i + 1)) = keyL (l.take i) ++ partL v := by rw [List.take_add_one, hv]; exact keyL_snoc _ _
          have HK := Lib.hid hk; clear hk hok hok' hv
          go_wp2_with fail
          refine (hP _ (HLO2.out.only (HB.out.old.trans (Only.alloc [] wr _) (Within.nil _ _)))).mono ?_
          rintro e w1 ⟨rfl, o1⟩
          have HB1 := Lib.hid ((HB.out.only (Only.alloc [] wr _)).only o1); clear o1 hP
          have hsz : (⟨(partL v).toArray⟩ : ByteArray).size = (partL v).length := by show (partL v).toArray.size = _; simp
          have HSZ := Lib.hid hsz
          go_wp2_with fail
          refine (HB1.out.write ⟨(partL v).toArray⟩ (by rw [HSZ.out]; omega)).mono ?_
          rintro e w2 ⟨rfl, hb2⟩
          have HB2 : Hid (BldAt wo wo.heap.size (keyL (l.take (i + 1))) w2) := by show BldAt _ _ _ _; rw [HK.out]; exact hb2
          clear hb2 HB1
          go_wp2_with fail
          refine HB2.out.len.mono ?_
          rintro e w3 ⟨rfl, rfl⟩
          by_cases hbig : 4096 < (keyL (l.take (i + 1))).length
          · have HR := Lib.hid (makeS_long HALL.out hbig)
            go_wp2_with fail
            go_ret2
            unfold MakePost
            rw [HR.out]
            exact ⟨rfl, HO.out.trans HB2.out.old (Within.nil _ _)⟩
          · go_wp2_with fail
            go_roundw
            case rel => exact ⟨i + 1, by omega, by go_num, HB2.out, by omega⟩
            case measure => simp [intOf]; omega
        · have hk : keyL (l.take i) = keyL l := by rw [List.take_of_length_le (by omega)]
          rw [hk] at hlen HB
          have hr : makeS l = (⟨(keyL l).toArray⟩, 0) := by unfold makeS; rw [if_pos HALL.out, if_neg (by omega)]
          have HR := Lib.hid hr; clear hr hk
          go_wp2_with fail
          refine HB.out.text.mono ?_
          rintro e w1 ⟨rfl, hb1⟩
          have HB1 := Lib.hid hb1; clear hb1
          go_wp2_with fail
          go_ret2
          unfold MakePost
          rw [HR.out]
          exact ⟨rfl, HO.out.trans HB1.out.old (Within.nil _ _)⟩

end Go.Proofs.YtfnlgpngnknkmaaDoor
