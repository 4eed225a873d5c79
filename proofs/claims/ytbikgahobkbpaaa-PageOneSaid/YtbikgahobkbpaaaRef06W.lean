/-
  What is proved here: the document's page: what its calls that write answer, and leave: Insert, Put, Delete; and Same.
  Conditions: a page's rows take at most 512 bytes; texts are no longer than the model's ints.
-/
import Derived.Test.YtbikgahobkbpaaaRef06
namespace Go.Proofs.Ytbikgahobkbpaaa
open Go.RowKit

theorem Try.infoSlotP : (Try.prog.info? 61).map (fun i => (i.zero, i.size, i.bytes)) = some (some (.agg #[.string ⟨#[]⟩, .bool false]), 2, 24) := by kernel_rfl

/-- What 'Insert' answers, and leaves. -/
def insR (l : List RowD) (s : ByteArray) : Int × Int × List RowD :=
  if 400 < s.size then (0, 2, l) else if 512 < took l + s.size + (if lowest l = l.length then 4 else 0) then (0, 50, l) else ((lowest l : Int), 0, putL l (lowest l) s)
def putR (l : List RowD) (k : Int) (s : ByteArray) : Int × List RowD :=
  if has l k = true then (if 400 < s.size then (2, l) else if 512 < (took l : Int) - (l.getD k.toNat RowD.free).s.size + s.size then (50, l) else (0, l.set k.toNat ⟨s, true⟩)) else (60, l)
def delR (l : List RowD) (k : Int) : Int × List RowD := if has l k = true then (0, delL l k.toNat) else (60, l)

theorem rowCells_one (l : List RowD) : ∀ u ∈ rowCells l, u.oneCell' = true := by
  intro u hu
  simp only [rowCells, List.mem_flatMap] at hu
  obtain ⟨r, _, hr⟩ := hu
  simp at hr
  rcases hr with rfl | rfl <;> rfl

section
variable {w W : World} {b : Nat} {l : List RowD} {L : List Res}

set_option maxRecDepth 100000 in
set_option maxHeartbeats 2000000 in
theorem rp_insert (s : ByteArray) (h : Sep w W (refPg b l :: L)) (hk : took l ≤ 512) (hs : s.size ≤ 1000000000000000000) :
    Calls Try.prog 27 #[.pointer (some ⟨b, 0, none⟩), .string s] W fun e W' => e = .returned (.tuple #[.int .i64 (insR l s).1, .int .i64 (insR l s).2.1]) ∧ Sep w W' (refPg b (insR l s).2.2 :: L) := by
  have htk : took l = 4 + 4 * l.length + tookOf l := rfl
  have hlow := lowest_le l
  have HS := Lib.hid h; clear h
  by_cases h4 : 400 < s.size
  · have HE : Hid (insR l s = (0, 2, l)) := by show _ = _; unfold insR; rw [if_pos h4]
    go_enter Try.func27, Try.ntmps27
    go_wp2_with fail
    go_ret2
    rw [HE.out]
    exact ⟨rfl, HS.out⟩
  · obtain ⟨p, q, c, hr, hcap, hp⟩ := pg_at HS.out
    have HP := Lib.hid hp; clear hp hr
    by_cases hbig : 512 < took l + s.size + (if lowest l = l.length then 4 else 0)
    · have HE : Hid (insR l s = (0, 50, l)) := by show _ = _; unfold insR; rw [if_neg h4, if_pos hbig]
      by_cases hq : lowest l = l.length
      · rw [if_pos hq] at hbig
        have hq' : (lowest l : Int) = l.length := by omega
        clear hq
        go_enter Try.func27, Try.ntmps27
        go_wp2_with fail
        refine (rp_first HS.out (by omega)).mono ?_
        rintro e w2 ⟨rfl, rfl⟩
        go_wp2_with fail
        refine (rp_size HS.out (by omega)).mono ?_
        rintro e w2 ⟨rfl, rfl⟩
        go_wp2_with fail
        go_ret2
        rw [HE.out]
        exact ⟨rfl, HS.out⟩
      · rw [if_neg hq] at hbig
        have hq' : ¬ (lowest l : Int) = l.length := by omega
        clear hq
        go_enter Try.func27, Try.ntmps27
        go_wp2_with fail
        refine (rp_first HS.out (by omega)).mono ?_
        rintro e w2 ⟨rfl, rfl⟩
        go_wp2_with fail
        refine (rp_size HS.out (by omega)).mono ?_
        rintro e w2 ⟨rfl, rfl⟩
        go_wp2_with fail
        go_ret2
        rw [HE.out]
        exact ⟨rfl, HS.out⟩
    · have HE : Hid (insR l s = ((lowest l : Int), 0, putL l (lowest l) s)) := by show _ = _; unfold insR; rw [if_neg h4, if_neg hbig]
      have fin : ∀ (l1 : List RowD) (p1 : Option Addr) (q1 : Nat) (W1 : World), lowest l < l1.length → l1.set (lowest l) ⟨s, true⟩ = putL l (lowest l) s →
          Sep w W1 (blkRes b (.cells #[.slice p1 l1.length q1] 29 (0, 0)) :: rowRes 61 2 (.slice p1 l1.length q1) l1.length (rowCells l1) :: L) →
          ∃ g, p1 = some ⟨g, 0, none⟩ ∧ W1.cell? ⟨b, 0, none⟩ = some (.slice (some ⟨g, 0, none⟩) l1.length q1) ∧ (∃ u, W1.cell? ⟨g, lowest l * 2, none⟩ = some u) ∧ (∃ u, W1.cell? ⟨g, lowest l * 2 + 1, none⟩ = some u) ∧ W1.frozen? ⟨g, lowest l * 2, none⟩ = false ∧ W1.frozen? ⟨g, lowest l * 2 + 1, none⟩ = false ∧
            Sep w ((W1.setCell ⟨g, lowest l * 2, none⟩ (.string s)).setCell ⟨g, lowest l * 2 + 1, none⟩ (.bool true)) (refPg b (putL l (lowest l) s) :: L) := by
        intro l1 p1 q1 W1 hk1 hset hsep
        obtain ⟨r, hr⟩ : ∃ r, l1[lowest l]? = some r := ⟨_, List.getElem?_eq_getElem hk1⟩
        obtain ⟨g, rfl⟩ := hsep.up1.rowAt (by rw [rowCells_length]; omega)
        obtain ⟨r0, r1⟩ := rowCells_at _ _ _ hr
        obtain ⟨c0, f0⟩ := hsep.up1.rowCell r0
        obtain ⟨c1, f1⟩ := hsep.up1.rowCell r1
        refine ⟨g, rfl, cell_of_block hsep.blk 0 rfl, ⟨_, c0⟩, ⟨_, c1⟩, f0, f1, ?_⟩
        have hs2 := (hsep.up1.rowStore (lowest l * 2) (.string s)).rowStore (lowest l * 2 + 1) (.bool true)
        rw [rowCells_set _ (lowest l) ⟨s, true⟩ hk1, hset] at hs2
        have hlen : l1.length = (putL l (lowest l) s).length := by rw [← hset]; simp
        rw [hlen] at hs2
        exact pg_close hs2.up1
      have FIN := Lib.hid fin; clear fin
      by_cases hq : lowest l = l.length
      · rw [if_pos hq] at hbig
        have hq' : (lowest l : Int) = l.length := by omega
        have HSET : Hid ((l ++ [RowD.free]).set (lowest l) ⟨s, true⟩ = putL l (lowest l) s) := by
          show _ = _
          unfold putL
          rw [if_pos hq, hq, List.set_append_right _ _ (Nat.le_refl _), Nat.sub_self]; rfl
        have hlt : lowest l < (l ++ [RowD.free]).length := by simp; omega
        obtain ⟨ir, IR⟩ := info_of Try.infoSlotP
        have hm := HP.out.row_made 61 2
        have cm : (W.alloc (.cells #[] 61)).cell? ⟨b, 0, none⟩ = some (.slice p l.length q) := cell_of_block hm.up1.blk 0 rfl
        have hsrc : ∀ j u, (rowCells l)[j]? = some u → ∃ b o, p = some ⟨b, o, none⟩ ∧ (W.alloc (.cells #[] 61)).cell? ⟨b, o + j, none⟩ = some u := by
          intro j u hu
          obtain ⟨g', e, h1, _⟩ := ownsRow_cell_of hm.up2.row hu
          exact ⟨g', 0, e, by rw [Nat.zero_add]; exact h1⟩
        have HSRC := Lib.hid hsrc; clear hsrc
        have HM := Lib.hid hm; clear hm
        go_enter Try.func27, Try.ntmps27
        go_wp2_with fail
        refine (rp_first HS.out (by omega)).mono ?_
        rintro e w2 ⟨rfl, rfl⟩
        go_wp2_with fail
        refine (rp_size HS.out (by omega)).mono ?_
        rintro e w2 ⟨rfl, rfl⟩
        go_wp2_with (at_builtin; go_must (refine wpList_append_src (w := w) (e := 61) rfl (.tmp 37) (.tmp 41) 27 rfl ir _ 2 24 Try.underlying27 IR.out rfl (by decide) _ 0 [] rfl p l.length q (rowCells l) rfl (by rw [rowCells_length]) HSRC.out (rowCells_one l) HM.out (by unfold maxLen; omega) (by omega) ?_))
        intro p' q' w6 hs6
        have HS6 := Lib.hid hs6; clear hs6
        go_wp2_with (at_builtin; go_must (refine wpList_append_sep (e := 61) (w := w) rfl (.tmp 42) (.tmp 44) 27 rfl ir _ 2 24 Try.underlying27 IR.out rfl (by decide) _ l.length (rowCells l) rfl rfl (by simp) rfl ?one HS6.out (by unfold maxLen; omega) (by omega) ?_))
        case one => simp [Value.oneCell']
        intro p2 q2 w7 hs7
        have hb7 := hs7.up1.blk
        have e7 : w7.cell? ⟨b, 0, none⟩ = some (.slice p l.length q) := cell_of_block hb7 0 rfl
        have f7 := free_of_block hb7 0
        have HT : Hid (Sep w (w7.setCell ⟨b, 0, none⟩ (.slice p2 (l.length + 1) q2)) (blkRes b (.cells #[.slice p2 (l ++ [RowD.free]).length q2] 29 (0, 0)) :: rowRes 61 2 (.slice p2 (l ++ [RowD.free]).length q2) (l ++ [RowD.free]).length (rowCells (l ++ [RowD.free])) :: L)) := by
          have e : rowCells (l ++ [RowD.free]) = rowCells l ++ [.string ⟨#[]⟩, .bool false] := by rw [rowCells_append]; rfl
          show Sep _ _ _
          rw [e, List.length_append]
          have := (hs7.up1.store 0 (.slice p2 (l.length + 1) q2)).up2.tail
          exact this
        obtain ⟨g, rfl, c8, ⟨u0, c0⟩, ⟨u1, c1⟩, f0, f1, hfin⟩ := FIN.out _ _ _ _ hlt HSET.out HT.out
        have HFIN := Lib.hid hfin; clear hfin
        have el : (l ++ [RowD.free]).length = l.length + 1 := by simp
        rw [el] at c8 hlt
        clear hb7 hs7 HT
        rw [hq] at c0 c1 f0 f1 HFIN HE
        go_wp2_with fail
        go_ret2
        rw [HE.out]
        exact ⟨rfl, HFIN.out⟩
      · rw [if_neg hq] at hbig
        have hq' : ¬ (lowest l : Int) = l.length := by omega
        have hlt : lowest l < l.length := by omega
        have HSET : Hid (l.set (lowest l) ⟨s, true⟩ = putL l (lowest l) s) := by
          show _ = _
          unfold putL
          rw [if_neg hq]
        obtain ⟨g, rfl, c8, ⟨u0, c0⟩, ⟨u1, c1⟩, f0, f1, hfin⟩ := FIN.out _ _ _ _ hlt HSET.out HP.out
        have HFIN := Lib.hid hfin; clear hfin
        clear hq
        go_enter Try.func27, Try.ntmps27
        go_wp2_with fail
        refine (rp_first HS.out (by omega)).mono ?_
        rintro e w2 ⟨rfl, rfl⟩
        go_wp2_with fail
        refine (rp_size HS.out (by omega)).mono ?_
        rintro e w2 ⟨rfl, rfl⟩
        go_wp2_with fail
        go_ret2
        rw [HE.out]
        exact ⟨rfl, HFIN.out⟩

end
end Go.Proofs.Ytbikgahobkbpaaa
