/-
  What is proved here: the document's page: what Put and Delete answer, and leave; and Same.
  Conditions: a page's rows take at most 512 bytes; texts are no longer than the model's ints.
-/
import Derived.Test.YtbikgahobkbpaaaRef06W
namespace Go.Proofs.Ytbikgahobkbpaaa
open Go.RowKit

theorem rowCells_text (l : List RowD) : ∀ (k : Nat) (r : RowD) (s : ByteArray), l[k]? = some r → (rowCells l).set (k * 2) (.string s) = rowCells (l.set k ⟨s, r.there⟩) := by
  induction l with
  | nil => intro k r s h; simp at h
  | cons x l ih =>
    intro k r s h
    cases k with
    | zero => simp at h; subst h; rfl
    | succ k =>
      have := ih k r s (by simpa using h)
      rw [show (k + 1) * 2 = k * 2 + 2 from by omega]
      simp only [rowCells, List.flatMap_cons, List.cons_append, List.nil_append, List.set_cons_succ] at this ⊢
      rw [this]

/-- The row is one shorter; the room behind it stays. -/
theorem Sep.rowShrink {w W : World} {e : TypeId} {size g n q : Nat} {xs : List Value} {l : List Res} (h : Sep w W (rowRes e size (.slice (some ⟨g, 0, none⟩) (n + 1) q) (n + 1) xs :: l)) :
    Sep w W (rowRes e size (.slice (some ⟨g, 0, none⟩) n q) n (xs.take (n * size)) :: l) := by
  refine h.turn ?_
  rintro F ⟨ho, rfl⟩
  refine ⟨_, ⟨⟨?_, .inr ?_⟩, rfl⟩, Only.refl _ _, Within.refl _ _⟩
  · have := ho.1
    rw [List.length_take, this, Nat.min_eq_left (Nat.mul_le_mul_right _ (Nat.le_succ n))]
  · rcases ho.2 with ⟨h1, _⟩ | ⟨g', cap, cur, hv, hb, hg, h1, h2, h3, h4⟩
    · cases h1
    · simp only [Value.slice.injEq, Option.some.injEq, Addr.mk.injEq, and_true, true_and] at hv
      obtain ⟨rfl, rfl⟩ := hv
      refine ⟨g, q, cur, rfl, hb, hg, by omega, h2, h3, ?_⟩
      rw [← h4, List.take_take, Nat.min_eq_left (Nat.mul_le_mul_right _ (Nat.le_succ n))]

theorem rowCells_take (l : List RowD) : ∀ n, (rowCells l).take (n * 2) = rowCells (l.take n) := by
  induction l with
  | nil => intro n; simp [rowCells]
  | cons x l ih =>
    intro n
    cases n with
    | zero => simp [rowCells]
    | succ n =>
      have := ih n
      rw [show (n + 1) * 2 = n * 2 + 2 from by omega]
      simp only [rowCells, List.flatMap_cons, List.cons_append, List.nil_append, List.take_succ_cons] at this ⊢
      rw [this]

section
variable {w W : World} {b : Nat} {l : List RowD} {L : List Res}

set_option maxRecDepth 100000 in
set_option maxHeartbeats 2000000 in
theorem rp_put (k : Int) (s : ByteArray) (h : Sep w W (refPg b l :: L)) (hk : took l ≤ 512) (hs : s.size ≤ 1000000000000000000) :
    Calls Try.prog 28 #[.pointer (some ⟨b, 0, none⟩), .int .i64 k, .string s] W fun e W' => e = .returned (.int .i64 (putR l k s).1) ∧ Sep w W' (refPg b (putR l k s).2 :: L) := by
  have htk : took l = 4 + 4 * l.length + tookOf l := rfl
  have HS := Lib.hid h; clear h
  cases hh : has l k with
  | false =>
    have HE : Hid (putR l k s = (60, l)) := by show _ = _; unfold putR; rw [if_neg (by rw [hh]; simp)]
    go_enter Try.func28, Try.ntmps28
    go_wp2_with fail
    refine (rp_has k HS.out (by omega)).mono ?_
    rintro e w2 ⟨rfl, rfl⟩
    rw [hh]
    clear hh
    go_wp2_with fail
    go_ret
    rw [HE.out]
    exact ⟨rfl, HS.out⟩
  | true =>
    obtain ⟨i, rfl, hi, r, hr1, hrt⟩ := has_true hh
    have hg1 : (l.getD i RowD.free) = r := by rw [List.getD_eq_getElem?_getD, hr1]; rfl
    by_cases h4 : 400 < s.size
    · have HE : Hid (putR l (i : Int) s = (2, l)) := by show _ = _; unfold putR; rw [if_pos hh, if_pos h4]
      clear hr1 hg1
      go_enter Try.func28, Try.ntmps28
      go_wp2_with fail
      refine (rp_has i HS.out (by omega)).mono ?_
      rintro e w2 ⟨rfl, rfl⟩
      rw [hh]
      clear hh
      go_wp2_with fail
      go_ret
      rw [HE.out]
      exact ⟨rfl, HS.out⟩
    · obtain ⟨p, q, c, hr, hcap, hp⟩ := pg_at HS.out
      have HP := Lib.hid hp; clear hp
      obtain ⟨g, rfl, hg, c0, c1⟩ := hr i r hr1
      have hsz : r.s.size ≤ tookOf l := size_le_tookOf r (List.mem_of_getElem? hr1)
      have HE : Hid (putR l (i : Int) s = if 512 < (took l : Int) - r.s.size + s.size then (50, l) else (0, l.set i ⟨s, true⟩)) := by
        show _ = _
        unfold putR
        rw [if_pos hh, if_neg h4, Int.toNat_natCast, hg1]
      obtain ⟨r0, r1⟩ := rowCells_at _ _ _ hr1
      have f0 := (HP.out.up1.rowCell r0).2
      have HFIN : Hid (∀ n, Sep w ((W.drewN n).setCell ⟨g, i * 2, none⟩ (.string s)) (refPg b (l.set i ⟨s, true⟩) :: L)) := by
        intro n
        have hs2 := (HP.out.only (Only.drewN [] W n)).up1.rowStore (i * 2) (.string s)
        rw [rowCells_text l i r s hr1, hrt] at hs2
        have hlen : l.length = (l.set i ⟨s, true⟩).length := by simp
        have hs3 := hs2.up1
        rw [hlen] at hs3
        exact pg_close hs3
      clear hr1 hr hg1 r0 r1
      obtain ⟨rs, rt⟩ := r
      simp only at hrt c0 c1 hsz HE
      subst hrt
      have b0 : (i : Int) < l.length := by omega
      have d : ∀ n, (W.drewN n).cell? ⟨b, 0, none⟩ = some (.slice (some ⟨g, 0, none⟩) l.length q) := fun n => c
      have hdr : ∀ n, Sep w (W.drewN n) (refPg b l :: L) := fun n => HS.out.only (Only.drewN [] _ _)
      have HDR := Lib.hid hdr; clear hdr d
      by_cases h5 : 512 < (took l : Int) - rs.size + s.size
      · go_enter Try.func28, Try.ntmps28
        go_wp2_with fail
        refine (rp_has i HS.out (by omega)).mono ?_
        rintro e w2 ⟨rfl, rfl⟩
        rw [hh]
        clear hh
        go_wp2_with fail
        go_quiet ((go_at_call 45; refine Calls.quiet_of_same ((rp_size (HDR.out _) (by omega)).mono fun e w' h => ⟨h.1, h.2.symm⟩)))
        go_wp2_with fail
        go_ret
        rw [HE.out, if_pos h5]
        exact ⟨rfl, HDR.out _⟩
      · go_enter Try.func28, Try.ntmps28
        go_wp2_with fail
        refine (rp_has i HS.out (by omega)).mono ?_
        rintro e w2 ⟨rfl, rfl⟩
        rw [hh]
        clear hh
        go_wp2_with fail
        go_quiet ((go_at_call 45; refine Calls.quiet_of_same ((rp_size (HDR.out _) (by omega)).mono fun e w' h => ⟨h.1, h.2.symm⟩)))
        go_wp2_with fail
        go_ret
        rw [HE.out, if_neg (by omega)]
        exact ⟨rfl, HFIN.out _⟩

set_option maxRecDepth 100000 in
set_option maxHeartbeats 2000000 in
theorem rp_delete (k : Int) (h : Sep w W (refPg b l :: L)) (hk : took l ≤ 512) :
    Calls Try.prog 29 #[.pointer (some ⟨b, 0, none⟩), .int .i64 k] W fun e W' => e = .returned (.int .i64 (delR l k).1) ∧ Sep w W' (refPg b (delR l k).2 :: L) := by
  have htk : took l = 4 + 4 * l.length + tookOf l := rfl
  have HS := Lib.hid h; clear h
  cases hh : has l k with
  | false =>
    have HE : Hid (delR l k = (60, l)) := by show _ = _; unfold delR; rw [if_neg (by rw [hh]; simp)]
    go_enter Try.func29, Try.ntmps29
    go_wp2_with fail
    refine (rp_has k HS.out (by omega)).mono ?_
    rintro e w2 ⟨rfl, rfl⟩
    rw [hh]
    clear hh
    go_wp2_with fail
    go_ret
    rw [HE.out]
    exact ⟨rfl, HS.out⟩
  | true =>
    obtain ⟨i, rfl, hi, r, hr1, hrt⟩ := has_true hh
    have HE : Hid (delR l (i : Int) = (0, delL l i)) := by show _ = _; unfold delR; rw [if_pos hh, Int.toNat_natCast]
    obtain ⟨p, q, c, hr, hcap, hp⟩ := pg_at HS.out
    obtain ⟨g, rfl, hg, _, _⟩ := hr i r hr1
    obtain ⟨r0, r1⟩ := rowCells_at _ _ _ hr1
    obtain ⟨c0, f0⟩ := hp.up1.rowCell r0
    obtain ⟨c1, f1⟩ := hp.up1.rowCell r1
    have HL : Hid (Sep w ((W.setCell ⟨g, i * 2, none⟩ (.string ⟨#[]⟩)).setCell ⟨g, i * 2 + 1, none⟩ (.bool false)) (blkRes b (.cells #[.slice (some ⟨g, 0, none⟩) l.length q] 29 (0, 0)) :: rowRes 61 2 (.slice (some ⟨g, 0, none⟩) l.length q) l.length (rowCells ((l.set i RowD.free).take l.length)) :: L)) := by
      have hs2 := (hp.up1.rowStore (i * 2) (.string ⟨#[]⟩)).rowStore (i * 2 + 1) (.bool false)
      have e : ((rowCells l).set (i * 2) (.string ⟨#[]⟩)).set (i * 2 + 1) (.bool false) = rowCells (l.set i RowD.free) := rowCells_set l i RowD.free hi
      rw [e] at hs2
      rw [List.take_of_length_le (by simp)]
      exact hs2.up1
    have hl1 : (l.set i RowD.free).length = l.length := by simp
    have HL1 := Lib.hid hl1; clear hl1
    have HDEL : Hid (trim (l.set i RowD.free) = delL l i) := rfl
    clear hr hp r0 r1 hr1
    go_enter Try.func29, Try.ntmps29
    go_wp2_with fail
    refine (rp_has i HS.out (by omega)).mono ?_
    rintro e w2 ⟨rfl, rfl⟩
    rw [hh]
    clear hh
    generalize l.set i RowD.free = l1 at *
    go_wp2_with fail
    go_loopw [] (fun wr => ∃ n : Nat, n ≤ l.length ∧ trim (l1.take n) = delL l i ∧ Sep w wr (blkRes b (.cells #[.slice (some ⟨g, 0, none⟩) n q] 29 (0, 0)) :: rowRes 61 2 (.slice (some ⟨g, 0, none⟩) n q) n (rowCells (l1.take n)) :: L)) (fun wr => match wr.cell? ⟨b, 0, none⟩ with | some (.slice _ n _) => n | _ => 0)
    case atStart => exact ⟨l.length, Nat.le_refl _, by rw [← HDEL.out, List.take_of_length_le (by rw [HL1.out]; exact Nat.le_refl _)], HL.out⟩
    case round =>
      obtain ⟨n, hn, ht, hs⟩ := hrel
      have HT := Lib.hid hs; clear hs HL
      have e0 : wr.cell? ⟨b, 0, none⟩ = some (.slice (some ⟨g, 0, none⟩) n q) := cell_of_block HT.out.blk 0 rfl
      have fb := free_of_block HT.out.blk 0
      have hcap2 : n ≤ q := HT.out.up1.rowCap
      clear c0 f0 c1 f1 c
      cases n with
      | zero =>
        have hd : delL l i = [] := by rw [← ht]; rfl
        have HD := Lib.hid hd; clear hd ht
        have hg0 : decide ((0 : Int) < 0) = false := rfl
        have HFIN : Hid (∀ m, Sep w (wr.drewN m) (refPg b (delL l i) :: L)) := by
          intro m
          rw [HD.out]
          exact pg_close (l := []) (HT.out.only (Only.drewN [] _ _))
        go_wp2_with fail
        go_quiet (fail)
        go_wp2_with fail
        go_ret
        rw [HE.out]
        exact ⟨rfl, HFIN.out _⟩
      | succ n =>
        obtain ⟨r, hx⟩ : ∃ r, l1[n]? = some r := ⟨_, List.getElem?_eq_getElem (by rw [HL1.out]; omega)⟩
        have hx' : (l1.take (n + 1))[n]? = some r := by rw [List.getElem?_take, if_pos (by omega)]; exact hx
        obtain ⟨r0, r1⟩ := rowCells_at _ _ _ hx'
        have d1 := (HT.out.up1.rowCell r1).1
        clear r0 r1 hx'
        have hg0 : decide ((0 : Int) < ((n : Nat) : Int) + 1) = true := by rw [decide_eq_true_eq]; omega
        have hg1 : ((n : Int) + 1) - 1 = n := by omega
        obtain ⟨rs, rt⟩ := r
        cases rt
        · rw [take_last hx, trim_free _ _ rfl] at ht
          have HX := Lib.hid ht; clear ht hx
          have HN : Hid (∀ m, Sep w ((wr.drewN m).setCell ⟨b, 0, none⟩ (.slice (some ⟨g, 0, none⟩) n q)) (blkRes b (.cells #[.slice (some ⟨g, 0, none⟩) n q] 29 (0, 0)) :: rowRes 61 2 (.slice (some ⟨g, 0, none⟩) n q) n (rowCells (l1.take n)) :: L)) := by
            intro m
            have h1 := (HT.out.only (Only.drewN [] _ m)).up1.rowShrink
            rw [rowCells_take, List.take_take, Nat.min_eq_left (Nat.le_succ n)] at h1
            exact h1.up1.store 0 (.slice (some ⟨g, 0, none⟩) n q)
          go_wp2_with fail
          go_quiet (fail)
          go_wp2_with fail
          go_region
          all_goals
            go_wp2_with fail
            go_roundw
            case rel => exact ⟨n, by omega, HX.out, HN.out _⟩
            case measure =>
              have e5 := fun m => cell_of_block (HN.out m).blk 0 (v := .slice (some ⟨g, 0, none⟩) n q) rfl
              rw [e5, e0]
              exact Nat.lt_succ_self n
        · rw [take_last hx, trim_there _ _ rfl, ← take_last hx] at ht
          have hlen : n + 1 = (delL l i).length := by rw [← ht, List.length_take, HL1.out]; omega
          have HFIN : Hid (∀ m, Sep w (wr.drewN m) (refPg b (delL l i) :: L)) := by
            intro m
            have h1 := HT.out.only (Only.drewN [] _ m)
            rw [ht] at h1
            have h2 : Sep w (wr.drewN m) (blkRes b (.cells #[.slice (some ⟨g, 0, none⟩) (delL l i).length q] 29 (0, 0)) :: rowRes 61 2 (.slice (some ⟨g, 0, none⟩) (delL l i).length q) (delL l i).length (rowCells (delL l i)) :: L) := by
              rw [← hlen]; exact h1
            exact pg_close h2
          clear hx ht hlen
          go_wp2_with fail
          go_quiet (fail)
          go_wp2_with fail
          go_ret
          rw [HE.out]
          exact ⟨rfl, HFIN.out _⟩

set_option maxRecDepth 100000 in
set_option maxHeartbeats 2000000 in
theorem rp_same {b' : Nat} {l' : List RowD} (h : Sep w W (refPg b l :: refPg b' l' :: L)) (hl : l.length ≤ 1000000) :
    Calls Try.prog 13 #[.pointer (some ⟨b, 0, none⟩), .pointer (some ⟨b', 0, none⟩)] W fun e W' => ∃ c, e = .returned (.bool c) ∧ (c = true ↔ l = l') ∧ Sep w W' (refPg b l :: refPg b' l' :: L) := by
  have HS := Lib.hid h; clear h
  obtain ⟨p, q, c, _, _, _⟩ := pg_at HS.out
  obtain ⟨p', q', c', _, _, _⟩ := pg_at HS.out.up1
  by_cases hlen : l.length = l'.length
  · have hl1 : ((l.length : Int) != l'.length) = false := by rw [hlen]; exact bne_self_eq_false _
    go_enter Try.func13, Try.ntmps13
    go_wp2_with fail
    go_quiet (fail)
    go_wp2_with fail
    have HS1 : Hid (Sep w (W.drewN nq) (refPg b l :: refPg b' l' :: L)) := HS.out.only (Only.drewN [] _ _)
    clear hl1 c c'
    go_loopw [5] (fun s5 wr => ∃ i : Nat, i ≤ l.length ∧ s5 = .int .i64 i ∧ l.take i = l'.take i ∧ Sep w wr (refPg b l :: refPg b' l' :: L)) (fun s5 _ => l.length - (intOf s5).toNat)
    case atStart => exact ⟨0, Nat.zero_le _, rfl, rfl, HS1.out⟩
    case round =>
      obtain ⟨i, hi, rfl, ht, hs⟩ := hrel
      have HT := Lib.hid hs; clear hs HS1
      obtain ⟨p, q, c, hr, _, _⟩ := pg_at HT.out
      obtain ⟨p', q', c', hr', _, _⟩ := pg_at HT.out.up1
      by_cases hlt : i < l.length
      · obtain ⟨r, hx⟩ : ∃ r, l[i]? = some r := ⟨_, List.getElem?_eq_getElem hlt⟩
        obtain ⟨r', hx'⟩ : ∃ r', l'[i]? = some r' := ⟨_, List.getElem?_eq_getElem (by omega)⟩
        obtain ⟨g, rfl, hg, c0, c1⟩ := hr i r hx
        obtain ⟨g', rfl, hg', d0, d1⟩ := hr' i r' hx'
        have hne : r ≠ r' → ¬ l = l' := fun hn he => hn (by rw [he, hx'] at hx; exact (Option.some.inj hx).symm)
        have hto : r = r' → l.take (i + 1) = l'.take (i + 1) := fun he => by rw [take_last hx, take_last hx', ht, he]
        have HNE := Lib.hid hne; clear hne
        have HTO := Lib.hid hto; clear hto
        have hb0 : (i : Int) < l.length := by omega
        have hb1 : (i : Int) < l'.length := by omega
        clear hx hx' hr hr' ht
        obtain ⟨rs, rt⟩ := r
        obtain ⟨rs', rt'⟩ := r'
        have hsm := same_text rs rs'
        by_cases hrt : rt = rt'
        · subst hrt
          have hq1 : (rt != rt) = false := bne_self_eq_false _
          by_cases hrs : rs = rs'
          · subst hrs
            rw [decide_eq_true rfl] at hsm
            go_wp2_with fail
            go_quiet (fail)
            go_wp2_with fail
            go_roundw
            case rel => exact ⟨i + 1, by omega, by go_num, HTO.out trivial, HT.out.only (Only.drewN [] _ _)⟩
            case measure => simp [intOf]; omega
          · rw [decide_eq_false hrs] at hsm
            go_wp2_with fail
            go_quiet (fail)
            go_wp2_with fail
            go_ret
            exact ⟨false, rfl, ⟨(fun h => by cases h), fun h => absurd h (HNE.out (fun e => hrs (by cases e; rfl)))⟩, HT.out.only (Only.drewN [] _ _)⟩
        · have hq1 : (rt != rt') = true := by rw [bne_iff_ne]; exact hrt
          go_wp2_with fail
          go_quiet (fail)
          go_wp2_with fail
          go_ret
          exact ⟨false, rfl, ⟨(fun h => by cases h), fun h => absurd h (HNE.out (fun e => hrt (by cases e; rfl)))⟩, HT.out.only (Only.drewN [] _ _)⟩
      · have he : l = l' := by
          rw [List.take_of_length_le (by omega), List.take_of_length_le (by omega)] at ht
          exact ht
        have HE := Lib.hid he; clear he ht hr hr'
        go_wp2_with fail
        go_ret
        exact ⟨true, rfl, ⟨fun _ => HE.out, fun _ => rfl⟩, HT.out⟩
  · have hl1 : ((l.length : Int) != l'.length) = true := by rw [bne_iff_ne]; omega
    go_enter Try.func13, Try.ntmps13
    go_wp2_with fail
    go_quiet (fail)
    go_wp2_with fail
    go_ret
    exact ⟨false, rfl, ⟨(fun h => by cases h), fun h => absurd (congrArg List.length h) hlen⟩, HS.out.only (Only.drewN [] _ _)⟩

end
end Go.Proofs.Ytbikgahobkbpaaa
