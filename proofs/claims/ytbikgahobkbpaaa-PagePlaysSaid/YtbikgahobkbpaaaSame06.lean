/-
  What is proved here: a page tells what the document's page does: 'same' of the statements on pages.
  Condition: the rows are such as a page may have ('Valid').
-/
import Derived.Test.YtbikgahobkbpaaaPlay06
namespace Go.Proofs.Ytbikgahobkbpaaa
open Go.RowKit

/-- 'Ints' at two readings of one list. -/
theorem ints_nat (l : List Nat) (p1 p2 : Option Addr) (q1 q2 : Nat) (w : World) (hl : ((l.length : Nat) : Int) ≤ 9223372036854775807)
    (h1 : ∀ j x, l[j]? = some x → ∃ b o, p1 = some ⟨b, o, none⟩ ∧ w.cell? ⟨b, o + j, none⟩ = some (.int .i64 ((x : Nat) : Int)))
    (h2 : ∀ j x, l[j]? = some x → ∃ b o, p2 = some ⟨b, o, none⟩ ∧ w.cell? ⟨b, o + j, none⟩ = some (.int .i64 ((x : Nat) : Int))) :
    Calls Try.prog 37 #[.slice p1 l.length q1, .slice p2 l.length q2] w fun e w' => e = .returned (.bool true) ∧ Only [] w w' := by
  have H1 := Lib.hid h1; clear h1
  have H2 := Lib.hid h2; clear h2
  have e0 : ((l.length : Int) != (l.length : Int)) = false := bne_self_eq_false _
  go_enter Try.func37, Try.ntmps37
  go_wp2_with fail
  go_loopw [5] (fun i wr => ∃ k : Nat, k ≤ l.length ∧ i = .int .i64 k ∧ Only [] w wr) (fun i _ => l.length - (intOf i).toNat)
  case atStart => exact ⟨0, Nat.zero_le _, rfl, Only.refl _ _⟩
  case round =>
    obtain ⟨k, hk, rfl, ho⟩ := hrel
    have HO := Lib.hid ho; clear ho
    by_cases hlt : k < l.length
    · obtain ⟨b1, o1, hp1, c1⟩ := H1.out k l[k] (List.getElem?_eq_getElem hlt)
      obtain ⟨b2, o2, hp2, c2⟩ := H2.out k l[k] (List.getElem?_eq_getElem hlt)
      subst hp1 hp2
      have d1 : wr.cell? ⟨b1, o1 + k, none⟩ = some (.int .i64 ((l[k] : Nat) : Int)) := by rw [HO.out.cell (cell_lt c1) (by simp)]; exact c1
      have d2 : wr.cell? ⟨b2, o2 + k, none⟩ = some (.int .i64 ((l[k] : Nat) : Int)) := by rw [HO.out.cell (cell_lt c2) (by simp)]; exact c2
      clear c1 c2
      have l1 : (k : Int) < l.length := by omega
      generalize l[k] = x at *
      have e1 : ((x : Int) != x) = false := bne_self_eq_false _
      go_wp2_with fail
      go_quiet (fail)
      go_wp2_with fail
      go_roundw
      case rel => exact ⟨k + 1, by omega, by go_num, HO.out.trans (Only.drewN [] _ _) (Within.refl _ _)⟩
      case measure => simp [intOf]; omega
    · go_wp2_with fail
      go_ret
      exact ⟨rfl, HO.out⟩

theorem Sep.natsAt {w W : World} {p : Option Addr} {n q : Nat} {xs : List Nat} {l : List Res} (h : Sep w W (rowRes 3 1 (.slice p n q) n (natCells xs) :: l)) :
    ∀ j x, xs[j]? = some x → ∃ b o, p = some ⟨b, o, none⟩ ∧ W.cell? ⟨b, o + j, none⟩ = some (.int .i64 ((x : Nat) : Int)) := by
  intro j x hx
  obtain ⟨g, e, h1, _⟩ := ownsRow_cell_of h.row (natCells_at hx)
  exact ⟨g, 0, e, by rw [Nat.zero_add]; exact h1⟩

theorem slotsL_length (l : List RowD) : (slotsL l).length ≤ l.length := by
  unfold slotsL
  rw [slotsFrom_length]
  exact cnt_le l

section
variable {w W : World} {b : Nat} {l : List RowD} {L : List Res}

set_option maxRecDepth 100000 in
set_option maxHeartbeats 2000000 in
theorem same_any (slot : Int) (h : Sep w W (refPg b l :: L)) (hv : Valid l) :
    Calls Try.prog 24 #[.string (enc l), .pointer (some ⟨b, 0, none⟩), .int .i64 slot] W fun e W' => e = .returned (.bool true) ∧ Sep w W' (refPg b l :: L) := by
  have HS := Lib.hid h; clear h
  have hz : (enc l).size = 512 := enc_size hv.took
  have htk := hv.took
  have hlen := took_len htk
  have hsl := slotsL_length l
  have HM := Lib.hid (rowsM_enc hv)
  obtain ⟨ii, II⟩ := info_of Try.infoIntP
  have hff : (freeL l != freeL l) = false := bne_self_eq_false _
  go_enter Try.func24, Try.ntmps24
  go_wp2_with fail
  refine (good_any (enc l) _ (by omega)).mono ?_
  rintro e w1 ⟨rfl, ho⟩
  have HS1 := Lib.hid (HS.out.only ho); clear ho HS
  rw [goodS_some HM.out]
  go_wp2_with fail
  refine (slots_any (enc l) HS1.out (by omega)).mono ?_
  rintro e w2 ⟨p1, q1, rfl, hs2⟩
  rw [slotsP_some HM.out] at hs2
  rw [slotsP_some HM.out]
  have HS2 := Lib.hid hs2.up1; clear hs2 HS1
  go_wp2_with fail
  refine (rp_slots HS2.out (by omega)).mono ?_
  rintro e w3 ⟨p2, q2, rfl, hs3⟩
  have HS3 := Lib.hid hs3; clear hs3 HS2
  go_wp2_with fail
  refine (ints_nat (slotsL l) p1 p2 q1 q2 _ (by omega) HS3.out.up2.natsAt HS3.out.natsAt).mono ?_
  rintro e w4 ⟨rfl, ho⟩
  have HS4 : Hid (Sep w w4 (refPg b l :: L)) := (HS3.out.only ho).tail.up1.tail
  clear ho HS3
  go_wp2_with fail
  refine (free_any (enc l) _ (by omega)).mono ?_
  rintro e w5 ⟨rfl, ho⟩
  have HS5 := Lib.hid (HS4.out.only ho); clear ho HS4
  rw [freeP_some HM.out]
  go_wp2_with fail
  refine (rp_free HS5.out (by omega)).mono ?_
  rintro e w6 ⟨rfl, hs6⟩
  have HS6 := Lib.hid hs6; clear hs6 HS5
  clear hff
  have hff : (freeL l != freeL l) = false := bne_self_eq_false _
  go_wp2_with fail
  refine (rp_slots HS6.out (by omega)).mono ?_
  rintro e w7 ⟨p3, q3, rfl, hs7⟩
  have HS7 := Lib.hid hs7; clear hs7 HS6
  have hsrc : ∀ j u, ([.int .i64 slot, .int .i64 (-1)] : List Value)[j]? = some u → ∃ b o, (some (⟨w7.heap.size, 0, none⟩ : Addr)) = some ⟨b, o, none⟩ ∧ (w7.alloc (.cells #[.int .i64 slot, .int .i64 (-1)] 3)).cell? ⟨b, o + j, none⟩ = some u := by
    intro j u hu
    refine ⟨w7.heap.size, 0, rfl, ?_⟩
    rw [Nat.zero_add]
    exact cell_of_block heap_alloc_self j (by simpa using hu)
  have HSRC := Lib.hid hsrc; clear hsrc
  have HS8 := Lib.hid (HS7.out.forget (.cells #[.int .i64 slot, .int .i64 (-1)] 3))
  go_wp2_with (at_builtin; go_must (refine wpList_append_src (w := w) (e := 3) (l := refPg b l :: L) rfl (.tmp 32) (.tmp 34) 35 rfl ii _ 1 8 Try.underlying35 II.out rfl (by decide) _ (slotsL l).length (natCells (slotsL l)) rfl (some ⟨w7.heap.size, 0, none⟩) 2 2 [.int .i64 slot, .int .i64 (-1)] rfl rfl HSRC.out (by simp [Value.oneCell']) HS8.out (by unfold maxLen; omega) (by omega) ?_))
  intro p' q' w9 hs9
  obtain ⟨ys, hys⟩ : ∃ ys : List Int, ys = (slotsL l).map (fun n => ((n : Nat) : Int)) ++ [slot, -1] := ⟨_, rfl⟩
  have hyc : natCells (slotsL l) ++ [.int .i64 slot, .int .i64 (-1)] = ys.map (Value.int .i64) := by rw [hys]; simp [natCells]
  have hyl : (slotsL l).length + 2 = ys.length := by rw [hys]; simp
  have HS9 : Hid (Sep w w9 (rowRes 3 1 (.slice p' ys.length q') ys.length (ys.map (Value.int .i64)) :: refPg b l :: L)) := by
    show Sep _ _ _
    rw [← hyl, ← hyc]
    exact hs9
  rw [hyl]
  have hyn : ys.length ≤ 129 := by omega
  clear hs9 hyc hyl hys HS8 HS7 HSRC hff
  go_wp2_with fail
  go_loopw [8] (fun s8 wr => ∃ i : Nat, i ≤ ys.length ∧ s8 = .int .i64 i ∧ Sep w wr (rowRes 3 1 (.slice p' ys.length q') ys.length (ys.map (Value.int .i64)) :: refPg b l :: L)) (fun s8 _ => ys.length - (intOf s8).toNat)
  case atStart => exact ⟨0, Nat.zero_le _, rfl, HS9.out⟩
  case round =>
    obtain ⟨i, hi, rfl, hs⟩ := hrel
    have HT := Lib.hid hs; clear hs HS9
    by_cases hlt : i < ys.length
    · obtain ⟨y, hy⟩ : ∃ y, ys[i]? = some y := ⟨_, List.getElem?_eq_getElem hlt⟩
      have hu : (ys.map (Value.int .i64))[i]? = some (.int .i64 y) := by simp [hy]
      obtain ⟨g, hg⟩ := HT.out.rowAt (by simp; omega)
      subst hg
      have c0 := (HT.out.rowCell hu).1
      have HU := Lib.hid hu; clear hy hu
      have hgp : getP (enc l) y = getR l y := by rw [getP_some HM.out]; rfl
      have HGP := Lib.hid hgp; clear hgp
      go_wp2_with fail
      refine (getp_any (enc l) y _ (by omega)).mono ?_
      rintro e wa ⟨rfl, ho⟩
      have HTA := Lib.hid (HT.out.only ho); clear ho
      rw [HGP.out]
      have ca : wa.cell? ⟨g, i, none⟩ = some (.int .i64 y) := (HTA.out.rowCell HU.out).1
      go_wp2_with fail
      refine (rp_get y HTA.out.up1 (by omega)).mono ?_
      rintro e wb ⟨rfl, rfl⟩
      generalize getR l y = r at *
      obtain ⟨r1, r2⟩ := r
      have q1 : (r2 != r2) = false := bne_self_eq_false _
      have q2 : (r1.toList == r1.toList) = true := beq_self_eq_true _
      go_wp2_with fail
      go_roundw
      case rel => exact ⟨i + 1, by omega, by go_num, HTA.out⟩
      case measure => simp [intOf]; omega
    · go_wp2_with fail
      go_ret
      exact ⟨rfl, HT.out.tail⟩

end
end Go.Proofs.Ytbikgahobkbpaaa
