/-
  What is proved here: a page and the document's page answer alike: 'play' and 'same' of the statements on pages.
  Conditions: the rows are such as a page may have ('Valid'); texts are no longer than the model's ints.
-/
import Derived.Test.YtbikgahobkbpaaaRef06D
namespace Go.Proofs.Ytbikgahobkbpaaa
open Go.RowKit

/-- What a call leaves: an error and the page as it was, or a page. -/
def Left (l : List RowD) (S : ByteArray) (e : Int) (l' : List RowD) : Prop := (e = 0 ∧ S = enc l' ∧ Valid l') ∨ (e ≠ 0 ∧ S = ⟨#[]⟩ ∧ l' = l)

theorem took_new {l : List RowD} (h : Valid l) (s : ByteArray) : took (putL l (lowest l) s) = took l + s.size + (if lowest l = l.length then 4 else 0) := by
  unfold putL
  by_cases hq : lowest l = l.length
  · rw [if_pos hq, if_pos hq]
    simp only [took, List.length_append, tookOf_append, List.length_cons, List.length_nil, tookOf]
    omega
  · rw [if_neg hq, if_neg hq]
    have hle := lowest_le l
    rcases lowest_free l with h1 | ⟨r, h1, h2⟩
    · exact absurd h1 hq
    · have h3 := tookOf_set l (lowest l) ⟨s, true⟩ (by omega)
      have h4 : l.getD (lowest l) RowD.free = r := by rw [List.getD_eq_getElem?_getD, h1]; rfl
      have h5 : r.s.size = 0 := by rw [h.free r (List.mem_of_getElem? h1) h2]; rfl
      rw [h4, h5] at h3
      simp only at h3
      simp only [took, List.length_set]
      omega

theorem ins_agree {l : List RowD} (h : Valid l) (s : ByteArray) : ∃ S k e l', insR l s = (k, e, l') ∧ insertS (enc l) s = (S, k, e) ∧ Left l S e l' := by
  rw [insertS_some (rowsM_enc h)]
  unfold insR
  by_cases h4 : 400 < s.size
  · have hp : putS l (lowest l) s = (⟨#[]⟩, 2) := by unfold putS; rw [if_pos h4]
    rw [if_pos h4, hp]
    exact ⟨⟨#[]⟩, 0, 2, l, rfl, by rw [if_neg (by decide)], .inr ⟨by decide, rfl, rfl⟩⟩
  · rw [if_neg h4]
    by_cases h5 : 512 < took l + s.size + (if lowest l = l.length then 4 else 0)
    · have hp : putS l (lowest l) s = (⟨#[]⟩, 50) := by unfold putS; rw [if_neg h4, took_new h, if_pos h5]
      rw [if_pos h5, hp]
      exact ⟨⟨#[]⟩, 0, 50, l, rfl, by rw [if_neg (by decide)], .inr ⟨by decide, rfl, rfl⟩⟩
    · have hp : putS l (lowest l) s = (enc (putL l (lowest l) s), 0) := by unfold putS; rw [if_neg h4, took_new h, if_neg h5]
      have hle := lowest_le l
      have hv := (h.put (k := lowest l) (s := s) (by omega) (by rw [hp])).1
      rw [if_neg h5, hp]
      exact ⟨_, _, 0, _, rfl, by rw [if_pos rfl], .inl ⟨rfl, rfl, hv⟩⟩

theorem put_agree {l : List RowD} (h : Valid l) (k : Int) (s : ByteArray) : ∃ S e l', putR l k s = (e, l') ∧ putP (enc l) k s = (S, e) ∧ Left l S e l' := by
  rw [putP_some (rowsM_enc h)]
  unfold putR
  by_cases hh : has l k = true
  · rw [if_pos hh, if_pos hh]
    obtain ⟨i, rfl, hi, _⟩ := has_true hh
    rw [Int.toNat_natCast]
    have hT : (took (putL l i s) : Int) = (took l : Int) - (l.getD i RowD.free).s.size + s.size := by
      have h3 := tookOf_set l i ⟨s, true⟩ hi
      simp only at h3
      unfold putL
      rw [if_neg (by omega)]
      simp only [took, List.length_set]
      omega
    by_cases h4 : 400 < s.size
    · have hp : putS l i s = (⟨#[]⟩, 2) := by unfold putS; rw [if_pos h4]
      rw [if_pos h4, hp]
      exact ⟨⟨#[]⟩, 2, l, rfl, rfl, .inr ⟨by decide, rfl, rfl⟩⟩
    · rw [if_neg h4]
      by_cases h5 : 512 < (took l : Int) - (l.getD i RowD.free).s.size + s.size
      · have hp : putS l i s = (⟨#[]⟩, 50) := by unfold putS; rw [if_neg h4, if_pos (by omega)]
        rw [if_pos h5, hp]
        exact ⟨⟨#[]⟩, 50, l, rfl, rfl, .inr ⟨by decide, rfl, rfl⟩⟩
      · have hp : putS l i s = (enc (putL l i s), 0) := by unfold putS; rw [if_neg h4, if_neg (by omega)]
        have hv := (h.put (k := i) (s := s) (.inr hi) (by rw [hp])).1
        have e : putL l i s = l.set i ⟨s, true⟩ := by unfold putL; rw [if_neg (by omega)]
        rw [if_neg h5, hp]
        exact ⟨_, 0, l.set i ⟨s, true⟩, rfl, rfl, .inl ⟨rfl, by rw [e], by rw [← e]; exact hv⟩⟩
  · rw [if_neg hh, if_neg hh]
    exact ⟨⟨#[]⟩, 60, l, rfl, rfl, .inr ⟨by decide, rfl, rfl⟩⟩

theorem del_agree {l : List RowD} (h : Valid l) (k : Int) : ∃ S e l', delR l k = (e, l') ∧ delP (enc l) k = (S, e) ∧ Left l S e l' := by
  rw [delP_some (rowsM_enc h)]
  unfold delR
  by_cases hh : has l k = true
  · rw [if_pos hh, if_pos hh]
    obtain ⟨i, rfl, hi, _⟩ := has_true hh
    rw [Int.toNat_natCast]
    exact ⟨_, 0, _, rfl, rfl, .inl ⟨rfl, rfl, h.del hi⟩⟩
  · rw [if_neg hh, if_neg hh]
    exact ⟨⟨#[]⟩, 60, l, rfl, rfl, .inr ⟨by decide, rfl, rfl⟩⟩

/-- The rows behind a step. -/
def stepL (l : List RowD) (x : StepD) : List RowD :=
  if x.kind = 0 then (insR l x.row).2.2 else if x.kind = 1 then (putR l x.slot x.row).2 else if x.kind = 2 then (delR l x.slot).2 else l

theorem Left.valid {l l' : List RowD} {S : ByteArray} {e : Int} (h : Left l S e l') (hv : Valid l) : Valid l' := by
  rcases h with ⟨_, _, h⟩ | ⟨_, _, h⟩
  · exact h
  · rw [h]; exact hv

theorem stepL_valid {l : List RowD} (h : Valid l) (x : StepD) : Valid (stepL l x) := by
  unfold stepL
  split
  · obtain ⟨S, k, e, l', h1, _, h2⟩ := ins_agree h x.row
    rw [h1]; exact h2.valid h
  · split
    · obtain ⟨S, e, l', h1, _, h2⟩ := put_agree h x.slot x.row
      rw [h1]; exact h2.valid h
    · split
      · obtain ⟨S, e, l', h1, _, h2⟩ := del_agree h x.slot
        rw [h1]; exact h2.valid h
      · exact h

/-- A new page of the document's. -/
theorem pg_new {w W : World} {L : List Res} (h : Sep w W L) : Sep w (W.alloc (.cells #[.slice none 0 0] 29)) (refPg W.heap.size [] :: L) :=
  pg_close (p := none) (q := 0) (l := []) ((h.alloc #[.slice none 0 0] 29).row_nil 61 2).up1

section
variable {w W : World} {b : Nat} {l : List RowD} {L : List Res}

set_option maxRecDepth 100000 in
set_option maxHeartbeats 2000000 in
theorem play_any (x : StepD) (h : Sep w W (refPg b l :: L)) (hv : Valid l) (hx : x.row.size ≤ 1000000000000000000) :
    Calls Try.prog 12 #[.string (enc l), .pointer (some ⟨b, 0, none⟩), .agg #[.int .i64 x.kind, .int .i64 x.slot, .string x.row]] W fun e W' => e = .returned (.tuple #[.string (enc (stepL l x)), .bool true]) ∧ Sep w W' (refPg b (stepL l x) :: L) := by
  have hz : (enc l).size = 512 := enc_size hv.took
  have htk := hv.took
  obtain ⟨kind, slot, row⟩ := x
  simp only at hx
  have hs0 := h.alloc #[.int .i64 kind, .int .i64 slot, .string row] 33
  obtain ⟨g, hg⟩ : ∃ g, g = W.heap.size := ⟨_, rfl⟩
  rw [← hg] at hs0
  have HS := Lib.hid hs0; clear hs0 h
  have HG := Lib.hid hg; clear hg
  have hcells : ∀ V L, Sep w V (blkRes g (.cells #[.int .i64 kind, .int .i64 slot, .string row] 33 (0, 0)) :: L) → V.cell? ⟨g, 0, none⟩ = some (.int .i64 kind) ∧ V.cell? ⟨g, 1, none⟩ = some (.int .i64 slot) ∧ V.cell? ⟨g, 2, none⟩ = some (.string row) := by
    intro V L hV
    have e0 : V.cell? ⟨g, 0, none⟩ = some (.int .i64 kind) := cell_of_block hV.blk 0 rfl
    have e1 : V.cell? ⟨g, 1, none⟩ = some (.int .i64 slot) := cell_of_block hV.blk 1 rfl
    have e2 : V.cell? ⟨g, 2, none⟩ = some (.string row) := cell_of_block hV.blk 2 rfl
    exact ⟨e0, e1, e2⟩
  have HC := Lib.hid hcells; clear hcells
  by_cases k0 : kind = 0
  · subst k0
    obtain ⟨S, k, e, l', h1, h2, h3⟩ := ins_agree hv row
    have HE : Hid (stepL l ⟨0, slot, row⟩ = l') := by show _ = _; unfold stepL; rw [if_pos rfl]; simp only; rw [h1]
    have H1 := Lib.hid h1; clear h1
    have H2 := Lib.hid h2; clear h2
    have hkk : (k != k) = false := bne_self_eq_false _
    have hee : (e != e) = false := bne_self_eq_false _
    go_enter Try.func12, Try.ntmps12
    go_wp2_with fail
    refine (insert_any (enc l) row _ (by omega) hx).mono ?_
    rintro e' w2 ⟨rfl, ho⟩
    have HS2 := Lib.hid (HS.out.only ho); clear HS ho
    rw [H2.out, ← HG.out]
    obtain ⟨c0, c1, c2⟩ := HC.out _ _ HS2.out
    go_wp2_with fail
    refine (rp_insert row HS2.out.up1 htk hx).mono ?_
    rintro e' w3 ⟨rfl, hs3⟩
    rw [H1.out] at hs3
    rw [H1.out]
    have HS4 := Lib.hid hs3.up1.tail; clear hs3 c0 c1 c2
    rcases h3 with ⟨rfl, rfl, hv'⟩ | ⟨hne, rfl, rfl⟩
    · have hz' : (enc l').size = 512 := enc_size hv'.took
      go_wp2_with fail
      go_ret2
      rw [HE.out]
      exact ⟨rfl, HS4.out⟩
    · have hne' : (e != 0) = true := by rw [bne_iff_ne]; exact hne
      go_wp2_with fail
      go_ret2
      rw [HE.out]
      exact ⟨rfl, HS4.out⟩
  · have k0' : (kind == 0) = false := by rw [beq_eq_false_iff_ne]; exact k0
    by_cases k1 : kind = 1
    · subst k1
      obtain ⟨S, e, l', h1, h2, h3⟩ := put_agree hv slot row
      have HE : Hid (stepL l ⟨1, slot, row⟩ = l') := by show _ = _; unfold stepL; rw [if_neg (show ¬ (1 : Int) = 0 by decide), if_pos rfl]; simp only; rw [h1]
      have H1 := Lib.hid h1; clear h1
      have H2 := Lib.hid h2; clear h2
      have hee : (e != e) = false := bne_self_eq_false _
      go_enter Try.func12, Try.ntmps12
      go_wp2_with fail
      refine (putp_any (enc l) slot row _ (by omega) hx).mono ?_
      rintro e' w2 ⟨rfl, ho⟩
      have HS2 := Lib.hid (HS.out.only ho); clear HS ho
      rw [H2.out, ← HG.out]
      obtain ⟨c0, c1, c2⟩ := HC.out _ _ HS2.out
      go_wp2_with fail
      refine (rp_put slot row HS2.out.up1 htk hx).mono ?_
      rintro e' w3 ⟨rfl, hs3⟩
      rw [H1.out] at hs3
      rw [H1.out]
      have HS4 := Lib.hid hs3.up1.tail; clear hs3 c0 c1 c2
      rcases h3 with ⟨rfl, rfl, hv'⟩ | ⟨hne, rfl, rfl⟩
      · have hz' : (enc l').size = 512 := enc_size hv'.took
        go_wp2_with fail
        go_ret2
        rw [HE.out]
        exact ⟨rfl, HS4.out⟩
      · have hne' : (e != 0) = true := by rw [bne_iff_ne]; exact hne
        go_wp2_with fail
        go_ret2
        rw [HE.out]
        exact ⟨rfl, HS4.out⟩
    · have k1' : (kind == 1) = false := by rw [beq_eq_false_iff_ne]; exact k1
      by_cases k2 : kind = 2
      · subst k2
        obtain ⟨S, e, l', h1, h2, h3⟩ := del_agree hv slot
        have HE : Hid (stepL l ⟨2, slot, row⟩ = l') := by show _ = _; unfold stepL; rw [if_neg (show ¬ (2 : Int) = 0 by decide), if_neg (show ¬ (2 : Int) = 1 by decide), if_pos rfl]; simp only; rw [h1]
        have H1 := Lib.hid h1; clear h1
        have H2 := Lib.hid h2; clear h2
        have hee : (e != e) = false := bne_self_eq_false _
        go_enter Try.func12, Try.ntmps12
        go_wp2_with fail
        refine (delp_any (enc l) slot _ (by omega)).mono ?_
        rintro e' w2 ⟨rfl, ho⟩
        have HS2 := Lib.hid (HS.out.only ho); clear HS ho
        rw [H2.out, ← HG.out]
        obtain ⟨c0, c1, c2⟩ := HC.out _ _ HS2.out
        go_wp2_with fail
        refine (rp_delete slot HS2.out.up1 htk).mono ?_
        rintro e' w3 ⟨rfl, hs3⟩
        rw [H1.out] at hs3
        rw [H1.out]
        have HS4 := Lib.hid hs3.up1.tail; clear hs3 c0 c1 c2
        rcases h3 with ⟨rfl, rfl, hv'⟩ | ⟨hne, rfl, rfl⟩
        · have hz' : (enc l').size = 512 := enc_size hv'.took
          go_wp2_with fail
          go_ret2
          rw [HE.out]
          exact ⟨rfl, HS4.out⟩
        · have hne' : (e != 0) = true := by rw [bne_iff_ne]; exact hne
          go_wp2_with fail
          go_ret2
          rw [HE.out]
          exact ⟨rfl, HS4.out⟩
      · have k2' : (kind == 2) = false := by rw [beq_eq_false_iff_ne]; exact k2
        have HE : Hid (stepL l ⟨kind, slot, row⟩ = l) := by show _ = _; unfold stepL; rw [if_neg k0, if_neg k1, if_neg k2]
        have HS4 := Lib.hid HS.out.tail; clear HS
        clear k0 k1 k2
        go_enter Try.func12, Try.ntmps12
        go_wp2_with fail
        go_ret2
        rw [HE.out]
        exact ⟨rfl, HS4.out⟩

end
end Go.Proofs.Ytbikgahobkbpaaa
