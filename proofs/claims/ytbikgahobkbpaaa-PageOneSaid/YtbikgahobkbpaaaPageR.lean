/-
  What is proved here: 'page.rows' reads a page's rows ('rowsM'), into new memory.
  Condition: the text is no longer than the model's ints.
-/
import Derived.Test.YtbikgahobkbpaaaPageW
import Derived.Deep.DeepCutAuto
namespace Go.Proofs.Ytbikgahobkbpaaa
open Go.RowKit

theorem Try.infoRowP : (Try.prog.info? 70).map (fun i => (i.zero, i.size, i.bytes)) = some (some (.agg #[.string ⟨#[]⟩, .bool false]), 2, 24) := by kernel_rfl
theorem Try.infoIntP : (Try.prog.info? 3).map (fun i => (i.zero, i.size, i.bytes)) = some (some (.int .i64 0), 1, 8) := by kernel_rfl

theorem made_rows (n : Nat) : madeCells #[.string ⟨#[]⟩, .bool false] (n * 2) = (rowCells (List.replicate n RowD.free)).toArray := by
  apply Array.ext
  · simp [madeCells, rowCells_length]
  · intro j h1 h2
    have hj : j < n * 2 := by simpa [madeCells] using h1
    have hk : (List.replicate n RowD.free)[j / 2]? = some RowD.free := by rw [List.getElem?_replicate]; rw [if_pos (by omega)]
    obtain ⟨e0, e1⟩ := rowCells_at _ _ _ hk
    simp only [madeCells, Array.getElem_map, Array.getElem_range, List.getElem_toArray]
    rcases Nat.mod_two_eq_zero_or_one j with hm | hm
    · have hj2 : j / 2 * 2 = j := by omega
      rw [hj2] at e0
      have := List.getElem?_eq_some_iff.1 e0
      obtain ⟨_, e⟩ := this
      rw [e]
      simp [hm, RowD.free]
    · have hj2 : j / 2 * 2 + 1 = j := by omega
      rw [hj2] at e1
      have := List.getElem?_eq_some_iff.1 e1
      obtain ⟨_, e⟩ := this
      rw [e]
      simp [hm, RowD.free]

theorem make_rows (n : Nat) (hn : n ≤ 1000) (w : World) :
    (Instr.makeSlice 63 (.int .u64 n) (.int .u64 n)).run Try.prog w = .ok (.slice (some ⟨w.heap.size, 0, none⟩) n n) (w.alloc (.cells (rowCells (List.replicate n RowD.free)).toArray 70)) := by
  obtain ⟨i, h1, h2, h3, h4⟩ := info_of Try.infoRowP
  rw [run_make (P := Try.prog) w _ _ i _ Try.underlying63 h1 h2 .u64 .u64 n n (by omega) (Int.le_refl _) (by rw [h4]; omega) (by omega), h3, Int.toNat_natCast]
  rw [← made_rows]
  rfl

theorem Sep.rows_made {w W : World} {l : List Res} (h : Sep w W l) (n : Nat) (hn : n ≤ 1000) :
    Sep w (W.alloc (.cells (rowCells (List.replicate n RowD.free)).toArray 70)) (rowRes 70 2 (.slice (some ⟨W.heap.size, 0, none⟩) n n) n (rowCells (List.replicate n RowD.free)) :: l) :=
  h.made (F := [W.heap.size]) ⟨⟨by simp [rowCells_length], .inr ⟨W.heap.size, n, _, rfl, Nat.zero_le _, heap_alloc_self, Nat.le_refl _, by unfold maxLen; omega, by simp [rowCells_length], by
    rw [List.take_of_length_le]
    simp [rowCells_length]⟩⟩, by simp [Value.ownBlock]⟩ (Only.alloc _ _ _) (fun k hk => by right; simp at hk; omega)

theorem rowCells_append (l l' : List RowD) : rowCells (l ++ l') = rowCells l ++ rowCells l' := by simp [rowCells]

theorem rowCells_set (l : List RowD) : ∀ (k : Nat) (r : RowD), k < l.length → ((rowCells l).set (k * 2) (.string r.s)).set (k * 2 + 1) (.bool r.there) = rowCells (l.set k r) := by
  induction l with
  | nil => intro k r h; simp at h
  | cons x l ih =>
    intro k r h
    cases k with
    | zero => rfl
    | succ k =>
      have := ih k r (by simpa using h)
      rw [show (k + 1) * 2 = k * 2 + 2 from by omega, show k * 2 + 2 + 1 = (k * 2 + 1) + 2 from by omega]
      simp only [rowCells, List.flatMap_cons, List.cons_append, List.nil_append, List.set_cons_succ] at this ⊢
      rw [this]

theorem readSizes_none {s : ByteArray} {k a : Nat} (h : numAt s a = none) : readSizes s (k + 1) a = none := by simp [readSizes, h]
theorem readSizes_big {s : ByteArray} {k a m y : Nat} (h : numAt s a = some (m, y)) (hm : 401 < m) : readSizes s (k + 1) a = none := by simp [readSizes, h, hm]
theorem readSizes_more {s : ByteArray} {k a m y : Nat} (h : numAt s a = some (m, y)) (hm : ¬ 401 < m) : readSizes s (k + 1) a = (readSizes s k (a + y)).map fun r => (m :: r.1, r.2) := by simp [readSizes, h, hm]

theorem same_text (a b : ByteArray) : (a.toList == b.toList) = decide (a = b) := by
  rw [ByteArray.toList_eq, ByteArray.toList_eq]
  by_cases h : a = b
  · subst h; simp
  · rw [decide_eq_false h]
    have : a.data.toList ≠ b.data.toList := fun e => h (by cases a; cases b; simp only [ByteArray.mk.injEq] at *; exact Array.toList_inj.1 e)
    simpa using this

theorem tookOf_le {l : List RowD} (h : ∀ r ∈ l, r.s.size ≤ 512) : tookOf l ≤ 512 * l.length := by
  induction l with
  | nil => simp [tookOf]
  | cons x l ih =>
    have h1 := h x (by simp)
    have h2 := ih (fun r hr => h r (by simp [hr]))
    simp only [tookOf, List.length_cons]
    omega

theorem last_cases (l : List RowD) : (lastFree l = false ∧ (l = [] ∨ ∃ r, 0 < l.length ∧ l[l.length - 1]? = some r ∧ r.there = true)) ∨ (lastFree l = true ∧ ∃ r, 0 < l.length ∧ l[l.length - 1]? = some r ∧ r.there = false) := by
  unfold lastFree
  rw [List.getLast?_eq_getElem?]
  cases h : l[l.length - 1]? with
  | none =>
    left
    refine ⟨rfl, .inl ?_⟩
    rw [List.getElem?_eq_none_iff] at h
    exact List.length_eq_zero_iff.1 (by omega)
  | some r =>
    have hp : 0 < l.length := by
      obtain ⟨h', _⟩ := List.getElem?_eq_some_iff.1 h
      omega
    cases hr : r.there
    · right; exact ⟨by simp [hr], r, hp, rfl, hr⟩
    · left; exact ⟨by simp [hr], .inr ⟨r, hp, rfl, hr⟩⟩

/-- Numbers as cells. -/
def natCells (xs : List Nat) : List Value := xs.map fun x => Value.int .i64 ((x : Nat) : Int)

theorem natCells_at {xs : List Nat} {i x : Nat} (h : xs[i]? = some x) : (natCells xs)[i]? = some (.int .i64 (x : Int)) := by simp [natCells, h]

theorem cutRows_zero {s : ByteArray} {xs : List Nat} {b : Nat} : cutRows s (0 :: xs) b = (cutRows s xs b).map (RowD.free :: ·) := rfl
theorem cutRows_out {s : ByteArray} {xs : List Nat} {x b : Nat} (hx : x ≠ 0) (h : s.size < b + x - 1) : cutRows s (x :: xs) b = none := by
  obtain ⟨m, rfl⟩ := Nat.exists_eq_succ_of_ne_zero hx
  simp only [cutRows]
  rw [if_pos (by omega)]
theorem cutRows_more {s : ByteArray} {xs : List Nat} {x b : Nat} (hx : x ≠ 0) (h : ¬ s.size < b + x - 1) : cutRows s (x :: xs) b = (cutRows s xs (b + x - 1)).map (⟨s.extract b (b + x - 1), true⟩ :: ·) := by
  obtain ⟨m, rfl⟩ := Nat.exists_eq_succ_of_ne_zero hx
  simp only [cutRows]
  rw [if_neg (by omega)]
  rfl

/-- What 'rows' answers. -/
def RowsRes (s : ByteArray) (w : World) (L : List Res) (e : Ending) (W' : World) : Prop :=
  ∃ p q, e = .returned (.tuple #[.slice p ((rowsM s).getD []).length q, .bool (rowsM s).isSome]) ∧ Sep w W' (rowRes 70 2 (.slice p ((rowsM s).getD []).length q) ((rowsM s).getD []).length (rowCells ((rowsM s).getD [])) :: L)

theorem RowsRes.none {s : ByteArray} {w W' : World} {L : List Res} (hM : rowsM s = none) (h : Sep w W' L) : RowsRes s w L (.returned (.tuple #[.slice none 0 0, .bool false])) W' := by
  unfold RowsRes
  rw [hM]
  exact ⟨Option.none, 0, rfl, h.row_nil _ _⟩

set_option maxRecDepth 100000 in
set_option maxHeartbeats 2000000 in
theorem rows_any (s : ByteArray) {w W : World} {L : List Res} (h : Sep w W L) (hs : s.size ≤ 1000000000000000000) :
    Calls Try.prog 31 #[.string s] W (RowsRes s w L) := by
  have HS := Lib.hid h; clear h
  obtain ⟨ii, II⟩ := info_of Try.infoIntP
  by_cases h512 : s.size = 512
  · have hn0 : ((s.size : Int) != 512) = false := by rw [h512]; rfl
    go_enter Try.func31, Try.ntmps31
    go_wp2_with fail
    go_step3
    go_wp2_with fail
    refine (get_any s 0 _ (Nat.zero_le _) hs).mono ?_
    rintro e w1 ⟨rfl, rfl⟩
    cases hnum : numAt s 0 with
    | none =>
      have hM : rowsM s = none := by unfold rowsM; rw [if_pos h512, hnum]
      have HM := Lib.hid hM; clear hM hnum
      simp only [numRes]
      go_wp2_with fail
      try rw [Exit.noGoto_ret]
      go_ret2
      exact RowsRes.none HM.out HS.out
    | some nz =>
      obtain ⟨n, z⟩ := nz
      have hz := numAt_le hnum (Nat.zero_le _)
      have hM : rowsM s = if 127 < n then none else rowsM2 s n z := by unfold rowsM; rw [if_pos h512, hnum]
      clear hnum
      simp only [numRes]
      by_cases hn : 127 < n
      · rw [if_pos hn] at hM
        have HM := Lib.hid hM; clear hM
        go_wp2_with fail
        try rw [Exit.noGoto_ret]
        go_ret2
        exact RowsRes.none HM.out HS.out
      · rw [if_neg hn] at hM
        have HM := Lib.hid hM; clear hM
        have hmk := make_rows n (by omega) W
        obtain ⟨g, hg⟩ : ∃ g, g = W.heap.size := ⟨_, rfl⟩
        have hrows := HS.out.rows_made n (by omega)
        rw [← hg] at hrows hmk
        go_wp2_with fail
        rw [← hg]
        have HROWS : Hid (Sep w (W.alloc (.cells (rowCells (List.replicate n RowD.free)).toArray 70)) (rowRes 70 2 (.slice (some ⟨g, 0, none⟩) n n) n (rowCells (List.replicate n RowD.free)) :: rowRes 3 1 (.slice none 0 0) 0 (natCells []) :: L)) := (hrows.row_nil _ _).up1
        clear hrows hmk hg HS
        generalize (W.alloc (.cells (rowCells (List.replicate n RowD.free)).toArray 70)) = W1 at *
        go_loopw [5, 8, 34] (fun s5 s8 s34 wr => ∃ (j a : Nat) (xs : List Nat) (p : Option Addr) (q : Nat), j ≤ n ∧ xs.length = j ∧ s34 = .int .i64 j ∧ s5 = .int .i64 a ∧ s8 = .slice p j q ∧ a ≤ 512 ∧ (∀ x ∈ xs, x ≤ 401) ∧ readSizes s n z = (readSizes s (n - j) a).map (fun r => (xs ++ r.1, r.2)) ∧
          Sep w wr (rowRes 70 2 (.slice (some ⟨g, 0, none⟩) n n) n (rowCells (List.replicate n RowD.free)) :: rowRes 3 1 (.slice p j q) j (natCells xs) :: L)) (fun _ _ s34 _ => n - (intOf s34).toNat)
        case atStart => exact ⟨0, z, [], none, 0, Nat.zero_le _, rfl, rfl, rfl, rfl, by omega, by simp, by simp, HROWS.out⟩
        case round =>
          obtain ⟨j, a, xs, p, q, hj, hxl, rfl, rfl, rfl, ha, hx4, hrd, hsep⟩ := hrel
          have HS := Lib.hid hsep; clear hsep HROWS
          have HX4 := Lib.hid hx4; clear hx4
          have HRD := Lib.hid hrd; clear hrd
          have HXL := Lib.hid hxl; clear hxl
          by_cases hlt : j < n
          · go_wp2_with fail
            refine (get_any s a _ (by omega) hs).mono ?_
            rintro e w1 ⟨rfl, rfl⟩
            obtain ⟨k, hk⟩ : ∃ k, n - j = k + 1 := ⟨n - j - 1, by omega⟩
            cases hnum : numAt s a with
            | none =>
              have HM2 : Hid (rowsM s = none) := by
                show rowsM s = none
                rw [HM.out]
                unfold rowsM2
                rw [HRD.out, hk, readSizes_none hnum]; rfl
              clear hnum
              simp only [numRes]
              go_wp2_with fail
              try rw [Exit.noGoto_ret]
              go_ret2
              exact RowsRes.none HM2.out HS.out.tail.tail
            | some mz =>
              obtain ⟨m, y⟩ := mz
              have hy := numAt_le hnum (by omega)
              simp only [numRes]
              by_cases hm : 401 < m
              · have HM2 : Hid (rowsM s = none) := by
                  show rowsM s = none
                  rw [HM.out]
                  unfold rowsM2
                  rw [HRD.out, hk, readSizes_big hnum hm]; rfl
                clear hnum
                go_wp2_with fail
                try rw [Exit.noGoto_ret]
                go_ret2
                exact RowsRes.none HM2.out HS.out.tail.tail
              · have HRD2 : Hid (readSizes s n z = (readSizes s (n - (j + 1)) (a + y)).map (fun r => ((xs ++ [m]) ++ r.1, r.2))) := by
                  show readSizes s n z = _
                  rw [HRD.out, hk, readSizes_more hnum hm, show n - (j + 1) = k by omega, Option.map_map]
                  congr 1
                  funext r
                  simp
                clear hnum
                have HSU := Lib.hid HS.out.up1
                go_wp2_with (at_builtin; go_must (refine wpList_append_sep (e := 3) (w := w) (l := rowRes 70 2 (.slice (some ⟨g, 0, none⟩) n n) n (rowCells (List.replicate n RowD.free)) :: L) rfl (.tmp 52) (.tmp 55) 35 rfl ii _ 1 8 Try.underlying35 II.out rfl (by decide) _ j (natCells xs) rfl rfl (by simp) rfl ?one HSU.out (by unfold maxLen; omega) (by omega) ?_))
                case one => simp [Value.oneCell']
                intro p' q' w' hs'
                have HS' : Hid (Sep w w' (rowRes 70 2 (.slice (some ⟨g, 0, none⟩) n n) n (rowCells (List.replicate n RowD.free)) :: rowRes 3 1 (.slice p' (j + 1) q') (j + 1) (natCells (xs ++ [m])) :: L)) := by
                  have := hs'.up1
                  simpa [Hid, natCells] using this
                clear hs' HSU
                go_wp2_with fail
                go_roundw
                case rel => exact ⟨j + 1, a + y, xs ++ [m], p', q', by omega, by have := HXL.out; simp; omega, by go_num, by go_num, rfl, by omega, by
                  intro x hx
                  rcases List.mem_append.1 hx with h | h
                  · exact HX4.out x h
                  · simp at h; omega, HRD2.out, HS'.out⟩
                case measure => simp [intOf]; omega
          · obtain rfl : n = j := by omega
            have HM3 : Hid (rowsM s = rowsM3 s xs a) := by
              show rowsM s = _
              rw [HM.out]
              unfold rowsM2
              rw [HRD.out, Nat.sub_self]
              simp [readSizes]
            clear HRD HM
            go_wp2_with fail
            go_step3
            go_wp2_with fail
            go_loopw [5, 60] (fun s5 s60 wr => ∃ (i b : Nat) (done : List RowD), i ≤ n ∧ done.length = i ∧ s60 = .int .i64 i ∧ s5 = .int .i64 b ∧ b ≤ 512 ∧ (∀ r ∈ done, r.s.size ≤ 512) ∧ cutRows s xs a = (cutRows s (xs.drop i) b).map (done ++ ·) ∧
              Sep w wr (rowRes 70 2 (.slice (some ⟨g, 0, none⟩) n n) n (rowCells (done ++ List.replicate (n - i) RowD.free)) :: rowRes 3 1 (.slice p n q) n (natCells xs) :: L)) (fun _ s60 _ => n - (intOf s60).toNat)
            case atStart => exact ⟨0, a, [], Nat.zero_le _, rfl, rfl, rfl, ha, by simp, by simp, HS.out⟩
            case round =>
              obtain ⟨i, b, done, hi, hdl, rfl, rfl, hb, hdz, hcr, hsep⟩ := hrel
              have HT := Lib.hid hsep; clear hsep HS
              have HDZ := Lib.hid hdz; clear hdz
              have HCR := Lib.hid hcr; clear hcr
              have HDL := Lib.hid hdl; clear hdl
              by_cases hlt2 : i < n
              · obtain ⟨x, hx⟩ : ∃ x, xs[i]? = some x := ⟨_, List.getElem?_eq_getElem (by rw [HXL.out]; exact hlt2)⟩
                have hx4 := HX4.out x (List.mem_of_getElem? hx)
                obtain ⟨g2, rfl⟩ := HT.out.up1.rowAt (by simp [natCells, HXL.out]; omega)
                have c2 := (HT.out.up1.rowCell (natCells_at hx)).1
                have hcr := HCR.out
                rw [drop_cons hx] at hcr
                clear hx
                have hrep : List.replicate (n - i) RowD.free = RowD.free :: List.replicate (n - (i + 1)) RowD.free := by
                  rw [show n - i = (n - (i + 1)) + 1 by omega]; rfl
                have HREP := Lib.hid hrep; clear hrep
                by_cases hx0 : x = 0
                · subst hx0
                  rw [cutRows_zero, Option.map_map] at hcr
                  have HCR2 : Hid (cutRows s xs a = (cutRows s (xs.drop (i + 1)) b).map ((done ++ [RowD.free]) ++ ·)) := by
                    show cutRows s xs a = _
                    rw [hcr]
                    congr 1
                    funext r
                    simp
                  clear hcr
                  have HT2 : Hid (Sep w wr (rowRes 70 2 (.slice (some ⟨g, 0, none⟩) n n) n (rowCells ((done ++ [RowD.free]) ++ List.replicate (n - (i + 1)) RowD.free)) :: rowRes 3 1 (.slice (some ⟨g2, 0, none⟩) n q) n (natCells xs) :: L)) := by
                    have := HT.out
                    rw [HREP.out] at this
                    simpa [Hid] using this
                  go_wp2_with fail
                  go_roundw
                  case rel => exact ⟨i + 1, b, done ++ [RowD.free], by omega, by have := HDL.out; simp; omega, by go_num, rfl, by omega, by
                    intro r hr
                    rcases List.mem_append.1 hr with h | h
                    · exact HDZ.out r h
                    · simp at h; subst h; exact Nat.zero_le _, HCR2.out, HT2.out⟩
                  case measure => simp [intOf]; omega
                · by_cases hbig : s.size < b + x - 1
                  · rw [cutRows_out hx0 hbig] at hcr
                    have HM4 : Hid (rowsM s = none) := by
                      show rowsM s = none
                      rw [HM3.out]
                      unfold rowsM3
                      rw [hcr]; rfl
                    clear hcr
                    go_wp2_with fail
                    try rw [Exit.noGoto_ret]
                    go_ret2
                    exact RowsRes.none HM4.out HT.out.tail.tail
                  · rw [cutRows_more hx0 hbig, Option.map_map] at hcr
                    have hrow : (done ++ List.replicate (n - i) RowD.free)[i]? = some RowD.free := by
                      rw [HREP.out, List.getElem?_append_right (by have := HDL.out; omega), HDL.out, Nat.sub_self]; rfl
                    obtain ⟨r0, r1⟩ := rowCells_at _ _ _ hrow
                    obtain ⟨c0, f0⟩ := HT.out.rowCell r0
                    obtain ⟨c1, f1⟩ := HT.out.rowCell r1
                    clear r0 r1 hrow
                    have HCR2 : Hid (cutRows s xs a = (cutRows s (xs.drop (i + 1)) (b + x - 1)).map ((done ++ [⟨s.extract b (b + x - 1), true⟩]) ++ ·)) := by
                      show cutRows s xs a = _
                      rw [hcr]
                      congr 1
                      funext r
                      simp
                    clear hcr
                    have HT2 : Hid (Sep w ((wr.setCell ⟨g, i * 2, none⟩ (.string (s.extract b (b + x - 1)))).setCell ⟨g, i * 2 + 1, none⟩ (.bool true)) (rowRes 70 2 (.slice (some ⟨g, 0, none⟩) n n) n (rowCells ((done ++ [⟨s.extract b (b + x - 1), true⟩]) ++ List.replicate (n - (i + 1)) RowD.free)) :: rowRes 3 1 (.slice (some ⟨g2, 0, none⟩) n q) n (natCells xs) :: L)) := by
                      have := (HT.out.rowStore (i * 2) (.string (s.extract b (b + x - 1)))).rowStore (i * 2 + 1) (.bool true)
                      rw [rowCells_set _ i ⟨s.extract b (b + x - 1), true⟩ (by have := HDL.out; simp; omega), HREP.out, List.set_append_right _ _ (by have := HDL.out; omega), HDL.out, Nat.sub_self] at this
                      simpa [Hid] using this
                    have hsz : (s.extract b (b + x - 1)).size ≤ 512 := by rw [ByteArray.size_extract]; omega
                    have HSZ := Lib.hid hsz; clear hsz
                    go_wp2_with fail
                    go_roundw
                    case rel => exact ⟨i + 1, b + x - 1, done ++ [⟨s.extract b (b + x - 1), true⟩], by omega, by have := HDL.out; simp; omega, by go_num, by go_num, by omega, by
                      intro r hr
                      rcases List.mem_append.1 hr with h | h
                      · exact HDZ.out r h
                      · simp at h; subst h; exact HSZ.out, HCR2.out, HT2.out⟩
                    case measure => simp [intOf]; omega
              · obtain rfl : n = i := by omega
                have HM4 : Hid (rowsM s = if 512 < took done ∨ lastFree done = true ∨ enc done ≠ s then none else some done) := by
                  show rowsM s = _
                  rw [HM3.out]
                  unfold rowsM3
                  rw [HCR.out, List.drop_eq_nil_of_le (by rw [HXL.out]; exact Nat.le_refl _)]
                  simp [cutRows]
                have hdl := HDL.out
                clear HDL HCR HM3 HXL HX4
                subst hdl
                have HT2 : Hid (Sep w wr (rowRes 70 2 (.slice (some ⟨g, 0, none⟩) done.length done.length) done.length (rowCells done) :: rowRes 3 1 (.slice p done.length q) done.length (natCells xs) :: L)) := by
                  have := HT.out
                  simpa [Hid] using this
                clear HT
                have hbd := tookOf_le HDZ.out
                have htk : took done = 4 + 4 * done.length + tookOf done := rfl
                have hrows := HT2.out.rowsAt
                have HTOOK := Lib.hid (took_any done (some ⟨g, 0, none⟩) done.length wr hrows (by omega))
                have HROWS := Lib.hid hrows; clear hrows
                by_cases h1 : 512 < took done
                · have HM5 : Hid (rowsM s = none) := by
                    show rowsM s = none
                    rw [HM4.out, if_pos (.inl h1)]
                  go_wp2_with fail
                  refine HTOOK.out.mono ?_
                  rintro e w2 ⟨rfl, ho⟩
                  have HO := Lib.hid (HT2.out.only ho); clear ho
                  go_wp2_with fail
                  try rw [Exit.noGoto_ret]
                  go_ret2
                  exact RowsRes.none HM5.out HO.out.tail.tail
                · have hpg := fun W hW => page_any done (some ⟨g, 0, none⟩) done.length W hW (by omega)
                  have HPG := Lib.hid hpg; clear hpg
                  rcases last_cases done with ⟨hl, hcase⟩ | ⟨hl, r, hpos, hr, hrt⟩
                  · have hM5 : rowsM s = if enc done ≠ s then none else some done := by
                      rw [HM4.out]
                      simp only [h1, hl, Bool.false_eq_true, false_or]
                    have HM5 := Lib.hid hM5; clear hM5 HM4
                    have hsame := same_text (enc done) s
                    rcases hcase with hnil | ⟨r, hpos, hr, hrt⟩
                    · have hz0 : (done.length : Int) = 0 := by rw [hnil]; rfl
                      clear hnil
                      go_wp2_with fail
                      refine HTOOK.out.mono ?_
                      rintro e w2 ⟨rfl, ho⟩
                      have HO := Lib.hid (HT2.out.only ho)
                      have HR2 := Lib.hid (HROWS.out.only ho); clear ho
                      go_wp2_with fail
                      refine (HPG.out _ HR2.out).mono ?_
                      rintro e w3 ⟨rfl, ho⟩
                      have HO3 := Lib.hid (HO.out.only ho); clear ho
                      by_cases he : enc done = s
                      · rw [decide_eq_true he] at hsame
                        have HM6 : Hid (rowsM s = some done) := by
                          show rowsM s = _
                          rw [HM5.out, if_neg (fun h => h he)]
                        clear he HM5
                        go_wp2_with fail
                        try rw [Exit.noGoto_ret]
                        go_ret2
                        refine ⟨some ⟨g, 0, none⟩, done.length, ?_, ?_⟩
                        · rw [HM6.out]; rfl
                        · rw [HM6.out]; exact HO3.out.up1.tail
                      · rw [decide_eq_false he] at hsame
                        have HM6 : Hid (rowsM s = none) := by
                          show rowsM s = _
                          rw [HM5.out, if_pos he]
                        clear he HM5
                        go_wp2_with fail
                        try rw [Exit.noGoto_ret]
                        go_ret2
                        exact RowsRes.none HM6.out HO3.out.tail.tail
                    · obtain ⟨g', e, hg', d0, d1⟩ := HROWS.out _ r hr
                      simp only [Option.some.injEq, Addr.mk.injEq, and_true] at e
                      subst e
                      rw [hrt] at d1
                      clear hr hrt d0 hl
                      go_wp2_with fail
                      refine HTOOK.out.mono ?_
                      rintro e w2 ⟨rfl, ho⟩
                      have HO := Lib.hid (HT2.out.only ho)
                      have HR2 := Lib.hid (HROWS.out.only ho)
                      have d2 : w2.cell? ⟨g, (done.length - 1) * 2 + 1, none⟩ = some (.bool true) := by rw [ho.cell hg' (by simp)]; exact d1
                      clear ho d1
                      go_wp2_with fail
                      refine (HPG.out _ HR2.out).mono ?_
                      rintro e w3 ⟨rfl, ho⟩
                      have HO3 := Lib.hid (HO.out.only ho); clear ho
                      by_cases he : enc done = s
                      · rw [decide_eq_true he] at hsame
                        have HM6 : Hid (rowsM s = some done) := by
                          show rowsM s = _
                          rw [HM5.out, if_neg (fun h => h he)]
                        clear he HM5
                        go_wp2_with fail
                        try rw [Exit.noGoto_ret]
                        go_ret2
                        refine ⟨some ⟨g, 0, none⟩, done.length, ?_, ?_⟩
                        · rw [HM6.out]; rfl
                        · rw [HM6.out]; exact HO3.out.up1.tail
                      · rw [decide_eq_false he] at hsame
                        have HM6 : Hid (rowsM s = none) := by
                          show rowsM s = _
                          rw [HM5.out, if_pos he]
                        clear he HM5
                        go_wp2_with fail
                        try rw [Exit.noGoto_ret]
                        go_ret2
                        exact RowsRes.none HM6.out HO3.out.tail.tail
                  · have HM5 : Hid (rowsM s = none) := by
                      show rowsM s = none
                      rw [HM4.out, if_pos (.inr (.inl hl))]
                    obtain ⟨g', e, hg', d0, d1⟩ := HROWS.out _ r hr
                    simp only [Option.some.injEq, Addr.mk.injEq, and_true] at e
                    subst e
                    rw [hrt] at d1
                    clear hr hrt d0 hl
                    go_wp2_with fail
                    refine HTOOK.out.mono ?_
                    rintro e w2 ⟨rfl, ho⟩
                    have HO := Lib.hid (HT2.out.only ho)
                    have d2 : w2.cell? ⟨g, (done.length - 1) * 2 + 1, none⟩ = some (.bool false) := by rw [ho.cell hg' (by simp)]; exact d1
                    clear ho d1
                    go_wp2_with fail
                    try rw [Exit.noGoto_ret]
                    go_ret2
                    exact RowsRes.none HM5.out HO.out.tail.tail
  · have hM : rowsM s = none := by unfold rowsM; rw [if_neg h512]
    have HM := Lib.hid hM; clear hM
    have hn0 : ((s.size : Int) != 512) = true := by rw [bne_iff_ne]; omega
    clear h512
    go_enter Try.func31, Try.ntmps31
    go_wp2_with fail
    go_step3
    go_wp2_with fail
    try rw [Exit.noGoto_ret]
    go_ret2
    exact RowsRes.none HM.out HS.out

end Go.Proofs.Ytbikgahobkbpaaa
