/-
  What is proved here: why keys can't be added (fault), and adding them (Add of package bulk).
  No condition: each lemma names its own.
-/
import Derived.Test.YtpaffpiaoanegaaBulkA
import Derived.Deep.DeepCutAuto
set_option linter.unusedVariables false
set_option linter.unusedSimpArgs false
namespace Go.Proofs.Ytpaffpiaoanegaa
open Go.RowKit

theorem addR_long {L l : List E} (h : longB l = true) : addR L l = (L, 2) := by unfold addR; rw [if_pos h]
theorem addR_order {L l : List E} (h : longB l = false) (h2 : ordB (lastK L) l = false) : addR L l = (L, 110) := by unfold addR; rw [if_neg (by rw [h]; simp), if_pos h2]
theorem addR_many {L l : List E} (h : longB l = false) (h2 : ordB (lastK L) l = true) (h3 : 4096 < L.length + l.length) : addR L l = (L, 3) := by unfold addR; rw [if_neg (by rw [h]; simp), if_neg (by rw [h2]; simp), if_pos h3]
theorem addR_ok {L l : List E} (h : longB l = false) (h2 : ordB (lastK L) l = true) (h3 : ¬ 4096 < L.length + l.length) : addR L l = (L ++ l, 0) := by unfold addR; rw [if_neg (by rw [h]; simp), if_neg (by rw [h2]; simp), if_neg h3]
theorem longB_cons {l : List E} {i : Nat} {e : E} (h : l[i]? = some e) : longB (l.drop i) = (decide (4096 < e.1.size) || longB (l.drop (i + 1))) := by
  obtain ⟨hi, rfl⟩ := List.getElem?_eq_some_iff.1 h
  rw [List.drop_eq_getElem_cons hi]
  rfl

set_option maxRecDepth 100000 in
theorem fault_over {W : World} {g fan : Nat} {L : List E} (h : BulkAt W g fan L true) (p : Option Addr) (n q : Nat) :
    Calls Try.prog 30 #[.pointer (some ⟨g, 0, none⟩), .slice p n q] W fun r W' => r = .returned (.int .i64 1) ∧ W = W' := by
  obtain ⟨t, d, hb, ht⟩ := h
  have c5 := cell_of_block hb 5 (v := .bool true) rfl
  clear hb ht
  go_enter Try.func30, Try.ntmps30
  go_wp2_with fail
  go_ret
  exact ⟨rfl, rfl⟩

set_option maxRecDepth 100000 in
set_option maxHeartbeats 2000000 in
theorem fault_any {W : World} {g fan : Nat} {L : List E} (h : BulkAt W g fan L false) {p : Option Addr} {l : List E} (q : Nat) (hE : EntsAt W p l) (hL : L.length ≤ 4096) (hl : l.length ≤ 100000) :
    Calls Try.prog 30 #[.pointer (some ⟨g, 0, none⟩), .slice p l.length q] W fun r W' => r = .returned (.int .i64 (addR L l).2) ∧ Only [] W W' := by
  have HB := Lib.hid h
  have HE := Lib.hid hE
  obtain ⟨t, d, hb, ht⟩ := h
  have c5 := cell_of_block hb 5 (v := .bool false) rfl
  have c0 := cell_of_block hb 0 (v := .pointer (some ⟨t, 0, none⟩)) rfl
  have HC0 := Lib.hid c0
  have HT := Lib.hid ht
  clear hb ht hE c0
  go_enter Try.func30, Try.ntmps30
  go_wp2_with fail
  clear c5
  go_loopw [21] (fun s21 wr => ∃ i : Nat, i ≤ l.length ∧ s21 = .int .i64 i ∧ longB (l.drop i) = longB l ∧ Only [] W wr) (fun s21 _ => l.length - (intOf s21).toNat)
  case atStart => exact ⟨0, Nat.zero_le _, rfl, rfl, Only.refl _ _⟩
  case round =>
    obtain ⟨i, hi, rfl, hlo, ho⟩ := hrel
    have HLO := Lib.hid hlo; clear hlo
    have HO := Lib.hid ho; clear ho
    by_cases hlt : i < l.length
    · obtain ⟨e, he⟩ : ∃ e, l[i]? = some e := ⟨_, List.getElem?_eq_getElem hlt⟩
      obtain ⟨b, o, rfl, _, e0, e1⟩ := (HE.out.only HO.out) i e he
      have HLC := Lib.hid ((longB_cons he).symm.trans HLO.out)
      clear he
      by_cases hbig : 4096 < e.1.size
      · have HR := Lib.hid (addR_long (L := L) (l := l) (by rw [← HLC.out, decide_eq_true hbig]; rfl))
        go_wp2_with fail
        go_ret
        exact ⟨by rw [HR.out]; rfl, HO.out.trans (Only.alloc _ _ _) (Within.nil _ _)⟩
      · have HLN : Hid (longB (l.drop (i + 1)) = longB l) := by have := HLC.out; rw [decide_eq_false hbig, Bool.false_or] at this; exact this
        go_wp2_with fail
        go_roundw
        case rel => exact ⟨i + 1, by omega, by go_num, HLN.out, HO.out.trans (Only.alloc _ _ _) (Within.nil _ _)⟩
        case measure => simp [intOf]; omega
    · have HNL : Hid (longB l = false) := by have := HLO.out; rw [List.drop_eq_nil_of_le (by omega)] at this; rw [← this]; rfl
      obtain ⟨W1, rfl⟩ : ∃ W1, W1 = wr := ⟨_, rfl⟩
      clear HLO
      go_wp2_with fail
      refine (blast_any (HB.out.only HO.out) hL).mono ?_
      rintro r w1 ⟨rfl, rfl⟩
      go_wp2_with fail
      go_loopw [7, 8, 37] (fun s7 s8 s37 wr => ∃ (i : Nat) (st : Option ByteArray), i ≤ l.length ∧ s37 = .int .i64 i ∧ s7 = .string (st.getD ⟨#[]⟩) ∧ s8 = .bool st.isSome ∧ ordB st (l.drop i) = ordB (lastK L) l ∧ Only [] W wr) (fun _ _ s37 _ => l.length - (intOf s37).toNat)
      case atStart => exact ⟨0, lastK L, Nat.zero_le _, rfl, rfl, rfl, rfl, HO.out⟩
      case round =>
        obtain ⟨j, st, hj, rfl, rfl, rfl, hord, ho⟩ := hrel
        have HOR := Lib.hid hord; clear hord
        have HO2 := Lib.hid ho; clear ho
        by_cases hlt : j < l.length
        · obtain ⟨e, he⟩ : ∃ e, l[j]? = some e := ⟨_, List.getElem?_eq_getElem hlt⟩
          obtain ⟨b, o, rfl, _, e0, e1⟩ := (HE.out.only HO2.out) j e he
          have hd := drop_at he
          have HD := Lib.hid hd
          clear he hd
          cases st with
          | none =>
            have HNX : Hid (ordB (some e.1) (l.drop (j + 1)) = ordB (lastK L) l) := by have := HOR.out; rw [HD.out] at this; exact this
            simp only [Option.getD, Option.isSome]
            go_wp2_with fail
            go_roundw
            case rel => exact ⟨j + 1, some e.1, by omega, by go_num, rfl, rfl, HNX.out, HO2.out.trans (Only.alloc _ _ _) (Within.nil _ _)⟩
            case measure => simp [intOf]; omega
          | some k =>
            have HNX : Hid ((decide (ltB k e.1) && ordB (some e.1) (l.drop (j + 1))) = ordB (lastK L) l) := by have := HOR.out; rw [HD.out] at this; exact this
            simp only [Option.getD, Option.isSome]
            by_cases hlt2 : ltB k e.1
            · have hls1 := less_false (ltB_asymm hlt2)
              have hls2 := text_ne (ltB_ne hlt2).symm
              have HNY : Hid (ordB (some e.1) (l.drop (j + 1)) = ordB (lastK L) l) := by have := HNX.out; rw [decide_eq_true hlt2, Bool.true_and] at this; exact this
              clear hlt2
              go_wp2_with fail
              go_roundw
              case rel => exact ⟨j + 1, some e.1, by omega, by go_num, rfl, rfl, HNY.out, HO2.out.trans (Only.alloc _ _ _) (Within.nil _ _)⟩
              case measure => simp [intOf]; omega
            · have HR := Lib.hid (addR_order (L := L) HNL.out (by rw [← HNX.out, decide_eq_false hlt2]; rfl))
              by_cases hek : e.1 = k
              · have hls1 : Op.bytesLess e.1.toList k.toList = false := less_false (by rw [hek]; exact ltB_irrefl _)
                have hls2 := text_eq hek
                have hor : Op.bytesLess e.1.toList k.toList = true ∨ (e.1.toList == k.toList) = true := .inr hls2
                clear hlt2 hek
                go_wp2_with fail
                all_goals
                  go_ret
                  exact ⟨by rw [HR.out]; rfl, HO2.out.trans (Only.alloc _ _ _) (Within.nil _ _)⟩
              · have hls1 := less_true (show ltB e.1 k from Decidable.byContradiction fun hc => hek (ltB_tri hc hlt2))
                have hls2 := text_ne hek
                have hor : Op.bytesLess e.1.toList k.toList = true ∨ (e.1.toList == k.toList) = true := .inl hls1
                clear hlt2 hek
                go_wp2_with fail
                all_goals
                  go_ret
                  exact ⟨by rw [HR.out]; rfl, HO2.out.trans (Only.alloc _ _ _) (Within.nil _ _)⟩
        · have HOK : Hid (ordB (lastK L) l = true) := by
            have := HOR.out
            rw [List.drop_eq_nil_of_le (by omega)] at this
            rw [← this]; cases st <;> rfl
          have c0 := (HO2.out.cell (block_lt_of_cell HC0.out) (by simp)).trans HC0.out
          by_cases hm : 4096 < L.length + l.length
          · have HR := Lib.hid (addR_many HNL.out HOK.out hm)
            go_wp2_with fail
            refine (len_any (HT.out.only HO2.out)).mono ?_
            rintro r w1 ⟨rfl, rfl⟩
            go_wp2_with fail
            go_ret
            exact ⟨by rw [HR.out]; rfl, HO2.out⟩
          · have HR := Lib.hid (addR_ok HNL.out HOK.out hm)
            go_wp2_with fail
            refine (len_any (HT.out.only HO2.out)).mono ?_
            rintro r w1 ⟨rfl, rfl⟩
            go_wp2_with fail
            go_ret
            exact ⟨by rw [HR.out]; rfl, HO2.out⟩

set_option maxRecDepth 100000 in
theorem badd_over {W : World} {g fan : Nat} {L : List E} (h : BulkAt W g fan L true) (p : Option Addr) (n q : Nat) :
    Calls Try.prog 9 #[.pointer (some ⟨g, 0, none⟩), .slice p n q] W fun r W' => r = .returned (.int .i64 1) ∧ W = W' := by
  have HF := Lib.hid (fault_over h p n q); clear h
  go_enter Try.func9, Try.ntmps9
  go_wp2_with fail
  refine HF.out.mono ?_
  rintro r w1 ⟨rfl, rfl⟩
  go_wp2_with fail
  go_ret
  exact ⟨rfl, rfl⟩

theorem addR_cases (L l : List E) : ((addR L l).1 = L ∧ (addR L l).2 ≠ 0) ∨ (addR L l = (L ++ l, 0) ∧ longB l = false ∧ ordB (lastK L) l = true ∧ L.length + l.length ≤ 4096) := by
  cases h1 : longB l with
  | true => rw [addR_long h1]; exact .inl ⟨rfl, by simp⟩
  | false =>
    cases h2 : ordB (lastK L) l with
    | false => rw [addR_order h1 h2]; exact .inl ⟨rfl, by simp⟩
    | true =>
      by_cases h3 : 4096 < L.length + l.length
      · rw [addR_many h1 h2 h3]; exact .inl ⟨rfl, by simp⟩
      · rw [addR_ok h1 h2 h3]; exact .inr ⟨rfl, rfl, rfl, by omega⟩

theorem longB_at {l : List E} (h : longB l = false) {i : Nat} {e : E} (he : l[i]? = some e) : e.1.size ≤ 4096 := by
  unfold longB at h
  rw [List.any_eq_false] at h
  have := h e (List.mem_of_getElem? he)
  simpa using this

theorem take_next {L l : List E} {i : Nat} {e : E} (he : l[i]? = some e) : L ++ l.take (i + 1) = (L ++ l.take i) ++ [e] := by
  rw [List.take_add_one, he, List.append_assoc]; rfl

set_option maxRecDepth 100000 in
set_option maxHeartbeats 4000000 in
theorem badd_any {w W : World} {rest : List Res} {g fan : Nat} {L : List E} (hs : Sep w W (bulkRes g fan L 0 false :: rest)) {p : Option Addr} {l : List E} (q : Nat)
    (hE : ∀ (W' : World) (L' : List E), Sep w W' (bulkRes g fan L' 0 false :: rest) → EntsAt W' p l) (hL : L.length ≤ 4096) (hl : l.length ≤ 100000) :
    Calls Try.prog 9 #[.pointer (some ⟨g, 0, none⟩), .slice p l.length q] W fun r W' => r = .returned (.int .i64 (addR L l).2) ∧ Sep w W' (bulkRes g fan (addR L l).1 0 false :: rest) := by
  have HF := Lib.hid (fault_any hs.bulk q (hE _ _ hs) hL hl)
  have mixed : Try.prog.follows .mixedOrders = true := by kernel_rfl
  have HE := Lib.hid hE; clear hE
  have HS := Lib.hid hs
  rcases addR_cases L l with ⟨h1, h2⟩ | ⟨h1, h2, h3, h4⟩
  · have h2' : ((addR L l).2 != 0) = true := by rw [bne_iff_ne]; exact h2
    have H1 := Lib.hid h1
    clear hs h1 h2
    generalize (addR L l).2 = code at HF h2' ⊢
    go_enter Try.func9, Try.ntmps9
    go_wp2_with fail
    refine HF.out.mono ?_
    rintro r w1 ⟨rfl, ho⟩
    have HO := Lib.hid ho; clear ho
    go_wp2_with fail
    go_ret
    exact ⟨rfl, by rw [H1.out]; exact HS.out.only HO.out⟩
  · obtain ⟨t, hs1, _⟩ := hs.open
    simp only [bulkParts, List.cons_append, List.nil_append] at hs1
    have HS1 := Lib.hid hs1
    have HSRT := Lib.hid ((ord_sorted l hs1.up1.sortedL).1 h3)
    have HLG := Lib.hid h2
    rw [h1] at HF ⊢
    simp only at HF ⊢
    clear hs hs1 h1 h2 h3
    go_enter Try.func9, Try.ntmps9
    go_wp2_with fail
    refine HF.out.mono ?_
    rintro r w1 ⟨rfl, ho⟩
    have HS2 := Lib.hid (HS1.out.only ho); clear ho HF HS1
    go_wp2_with fail
    go_loopw [16] (fun s16 wr => ∃ i : Nat, i ≤ l.length ∧ s16 = .int .i64 i ∧ Sep w wr (blkRes g (.cells (bulkCells t (lastS (L ++ l.take i)) 0 false) 77 (0, 0)) :: treeRes t fan (L ++ l.take i) :: rest)) (fun s16 _ => l.length - (intOf s16).toNat)
    case atStart => exact ⟨0, Nat.zero_le _, rfl, by rw [List.take_zero, List.append_nil]; exact HS2.out⟩
    case round =>
      obtain ⟨i, hi, rfl, hs⟩ := hrel
      have HT := Lib.hid hs; clear hs HS2
      by_cases hlt : i < l.length
      · obtain ⟨e, he⟩ : ∃ e, l[i]? = some e := ⟨_, List.getElem?_eq_getElem hlt⟩
        have hcl : Sep w wr (bulkRes g fan (L ++ l.take i) 0 false :: rest) := Sep.close (ps := bulkParts g fan (L ++ l.take i) 0 false) t HT.out trivial
        obtain ⟨b, o, rfl, _, e0, e1⟩ := (HE.out _ _ hcl) i e he
        have hts := sorted_takes HSRT.out he
        obtain ⟨hh, hput⟩ := putL_end hts
        have hesz := longB_at HLG.out he
        have HNX := Lib.hid (take_next (L := L) he)
        have htl : (L ++ l.take i).length < 4096 := by rw [List.length_append, List.length_take]; omega
        have HH := Lib.hid hh
        have HPUT := Lib.hid hput
        clear he hcl hts hh hput
        generalize L ++ l.take i = M at HT HH HPUT HNX htl
        have hs1 := HT.out.alloc #[.string e.1, .int .i64 e.2] 31
        obtain ⟨eb, heb⟩ : ∃ eb, eb = wr.heap.size := ⟨_, rfl⟩
        rw [← heb] at hs1
        go_upto_region 7 with fail
        rw [← heb]
        clear e0 e1 heb HT
        generalize (wr.alloc (.cells #[.string e.1, .int .i64 e.2] 31)) = V at *
        have HS1 := Lib.hid hs1; clear hs1
        have c0 := cell_of_block HS1.out.up1.blk 0 (v := .pointer (some ⟨t, 0, none⟩)) rfl
        have d0 := cell_of_block HS1.out.blk 0 (v := .string e.1) rfl
        have d1 := cell_of_block HS1.out.blk 1 (v := .int .i64 e.2) rfl
        go_cut [] (fun wx => Sep w wx (treeRes t fan (M ++ [e]) :: blkRes eb (.cells #[.string e.1, .int .i64 e.2] 31 (0, 0)) :: blkRes g (.cells (bulkCells t (lastS M) 0 false) 77 (0, 0)) :: rest))
        case first =>
          go_region_held3 (fun w' => w'.cell? ⟨g, 0, none⟩ = some (.pointer (some ⟨t, 0, none⟩)) ∧ w'.cell? ⟨eb, 0, none⟩ = some (.string e.1) ∧ w'.cell? ⟨eb, 1, none⟩ = some (.int .i64 e.2)) (first | go_keep | (refine ⟨?_, ?_, ?_⟩ <;> assumption)) (first | (go_at_call 25; refine (tput_any (HS1.out.up2.drew) e.1 e.2 hesz (by omega) (.inr (by omega))).mono ?_; rintro r w4 ⟨rfl, hs4⟩; rw [show ((e.1, e.2) : E) = e from rfl, HPUT.out] at hs4; have HS4 := Lib.hid hs4; have f0 := cell_of_block HS4.out.up2.blk 0 (v := .pointer (some ⟨t, 0, none⟩)) rfl; have g0 := cell_of_block HS4.out.up1.blk 0 (v := .string e.1) rfl; have g1 := cell_of_block HS4.out.up1.blk 1 (v := .int .i64 e.2) rfl; clear hs4))
          all_goals
            go_wp2_with fail
            go_meet
            exact HS4.out
        case rest =>
          have HS4 := Lib.hid hcut; clear hcut c0 d0 d1
          have d0 := cell_of_block HS4.out.up1.blk 0 (v := .string e.1) rfl
          have f1 := cell_of_block HS4.out.up2.blk 1 (v := .string (lastS M)) rfl
          have z1 := free_of_block HS4.out.up2.blk 1
          have HST : Hid (Sep w (wc.setCell ⟨g, 1, none⟩ (.string e.1)) (blkRes g (.cells (bulkCells t (lastS (M ++ [e])) 0 false) 77 (0, 0)) :: treeRes t fan (M ++ [e]) :: rest)) := by
            have h := (HS4.out.up2.store 1 (.string e.1)).up2.tail
            have hl : lastS (M ++ [e]) = e.1 := by unfold lastS; rw [lastK_snoc]; rfl
            rw [hl]
            exact h
          go_wp2_with fail
          go_roundw
          case rel => exact ⟨i + 1, by omega, by go_num, by rw [HNX.out]; exact HST.out⟩
          case measure => simp [intOf]; omega
      · have HAL : Hid (L ++ l.take i = L ++ l) := by show _ = _; rw [List.take_of_length_le (by omega)]
        go_wp2_with fail
        go_ret
        refine ⟨rfl, ?_⟩
        have h := HT.out
        rw [HAL.out] at h
        exact Sep.close (ps := bulkParts g fan (L ++ l) 0 false) t h trivial

end Go.Proofs.Ytpaffpiaoanegaa
