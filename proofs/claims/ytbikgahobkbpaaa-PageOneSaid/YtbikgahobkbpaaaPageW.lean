/-
  What is proved here: what package page's small functions on rows compute: took, lowest, has, page.
  Conditions: rows take at most a billion bytes ('page': at most 512).
-/
import Derived.Test.YtbikgahobkbpaaaBuild
import Derived.Test.YtbikgahobkbpaaaPageM
namespace Go.Proofs.Ytbikgahobkbpaaa
open Go.RowKit

/-- Rows as cells. -/
def rowCells (l : List RowD) : List Value := l.flatMap fun r => [.string r.s, .bool r.there]

/-- The rows l lie at p. -/
def RowsAt (W : World) (p : Option Addr) (l : List RowD) : Prop :=
  ∀ k r, l[k]? = some r → ∃ g, p = some ⟨g, 0, none⟩ ∧ g < W.heap.size ∧ W.cell? ⟨g, k * 2, none⟩ = some (.string r.s) ∧ W.cell? ⟨g, k * 2 + 1, none⟩ = some (.bool r.there)

theorem RowsAt.only {W W' : World} {p : Option Addr} {l : List RowD} (h : RowsAt W p l) (ho : Only [] W W') : RowsAt W' p l := by
  intro k r hr
  obtain ⟨g, e, hg, h1, h2⟩ := h k r hr
  exact ⟨g, e, Nat.lt_of_lt_of_le hg ho.size, by rw [ho.cell hg (by simp)]; exact h1, by rw [ho.cell hg (by simp)]; exact h2⟩

theorem RowsAt.nil (W : World) (p : Option Addr) : RowsAt W p [] := by intro k r h; simp at h

theorem rowCells_at (l : List RowD) : ∀ (k : Nat) (r : RowD), l[k]? = some r → (rowCells l)[k * 2]? = some (.string r.s) ∧ (rowCells l)[k * 2 + 1]? = some (.bool r.there) := by
  induction l with
  | nil => intro k r h; simp at h
  | cons x l ih =>
    intro k r h
    cases k with
    | zero => simp at h; subst h; exact ⟨rfl, rfl⟩
    | succ k =>
      have h' : l[k]? = some r := by simpa using h
      have := ih k r h'
      rw [show (k + 1) * 2 = k * 2 + 2 from by omega, show k * 2 + 2 + 1 = (k * 2 + 1) + 2 from by omega]
      exact this

theorem rowCells_length (l : List RowD) : (rowCells l).length = l.length * 2 := by
  induction l with
  | nil => rfl
  | cons x l ih =>
    simp only [rowCells, List.flatMap_cons, List.length_append, List.length_cons, List.length_nil] at ih ⊢
    rw [ih]
    omega

theorem cell_lt {W : World} {g j : Nat} {v : Value} (h : W.cell? ⟨g, j, none⟩ = some v) : g < W.heap.size := by
  rcases Nat.lt_or_ge g W.heap.size with h' | h'
  · exact h'
  · simp [World.cell?, Array.getElem?_eq_none h'] at h

theorem Sep.rowsAt {w W : World} {p : Option Addr} {n q : Nat} {rs : List RowD} {l : List Res} (h : Sep w W (rowRes 70 2 (.slice p n q) n (rowCells rs) :: l)) : RowsAt W p rs := by
  intro k r hr
  obtain ⟨h1, h2⟩ := rowCells_at rs k r hr
  obtain ⟨g, e, c1, _⟩ := ownsRow_cell_of h.row h1
  obtain ⟨g', e', c2, _⟩ := ownsRow_cell_of h.row h2
  subst e
  simp only [Option.some.injEq, Addr.mk.injEq, and_true] at e'
  subst e'
  exact ⟨g, rfl, cell_lt c1, c1, c2⟩

theorem drop_cons {α : Type} {l : List α} {i : Nat} {x : α} (h : l[i]? = some x) : l.drop i = x :: l.drop (i + 1) := by
  obtain ⟨hi, rfl⟩ := List.getElem?_eq_some_iff.1 h
  exact List.drop_eq_getElem_cons hi

set_option maxRecDepth 100000 in
theorem took_any (l : List RowD) (p : Option Addr) (q : Nat) (w : World) (hr : RowsAt w p l) (hk : took l ≤ 1000000000) :
    Calls Try.prog 36 #[.slice p l.length q] w fun e w' => e = .returned (.int .i64 (took l)) ∧ Only [] w w' := by
  have HR := Lib.hid hr; clear hr
  have hk1 : 4 + 4 * l.length + tookOf l ≤ 1000000000 := hk
  clear hk
  go_enter Try.func36, Try.ntmps36
  go_wp2_with fail
  go_loopw [3, 12] (fun s3 s12 wr => ∃ i n : Nat, i ≤ l.length ∧ s3 = .int .i64 n ∧ s12 = .int .i64 i ∧ Only [] w wr ∧ n + tookOf (l.drop i) = took l) (fun _ s12 _ => l.length - (intOf s12).toNat)
  case atStart => exact ⟨0, 4 + 4 * l.length, Nat.zero_le _, by go_num, rfl, Only.refl _ _, rfl⟩
  case round =>
    obtain ⟨i, n, hi, rfl, rfl, ho, hn⟩ := hrel
    have HO := Lib.hid ho; clear ho
    by_cases hlt : i < l.length
    · obtain ⟨r, hx⟩ : ∃ r, l[i]? = some r := ⟨_, List.getElem?_eq_getElem hlt⟩
      obtain ⟨g, rfl, hg, c0, c1⟩ := (HR.out.only HO.out) i r hx
      have e := drop_cons hx
      rw [e] at hn
      simp only [tookOf] at hn
      have htk : took l = 4 + 4 * l.length + tookOf l := rfl
      clear e hx
      go_wp2_with fail
      go_roundw
      case rel => exact ⟨i + 1, n + r.s.size, by omega, by go_num, by go_num, HO.out.trans (Only.alloc [] _ _) (Within.nil _ _), by omega⟩
      case measure => simp [intOf]; omega
    · have e : l.drop i = [] := List.drop_eq_nil_of_le (by omega)
      rw [e] at hn
      have hn' : n = took l := by simpa [tookOf] using hn
      subst hn'
      go_wp2_with fail
      go_ret
      exact ⟨rfl, HO.out⟩

theorem lowest_le (l : List RowD) : lowest l ≤ l.length := by
  induction l with
  | nil => simp [lowest]
  | cons r l ih => simp only [lowest, List.length_cons]; split <;> omega

set_option maxRecDepth 100000 in
theorem lowest_any (l : List RowD) (p : Option Addr) (q : Nat) (w : World) (hr : RowsAt w p l) (hk : l.length ≤ 1000000000) :
    Calls Try.prog 32 #[.slice p l.length q] w fun e w' => e = .returned (.int .i64 (lowest l)) ∧ Only [] w w' := by
  have HR := Lib.hid hr; clear hr
  go_enter Try.func32, Try.ntmps32
  go_wp2_with fail
  go_loopw [7] (fun s7 wr => ∃ i : Nat, i ≤ l.length ∧ s7 = .int .i64 i ∧ Only [] w wr ∧ i + lowest (l.drop i) = lowest l) (fun s7 _ => l.length - (intOf s7).toNat)
  case atStart => exact ⟨0, Nat.zero_le _, rfl, Only.refl _ _, by simp⟩
  case round =>
    obtain ⟨i, hi, rfl, ho, hn⟩ := hrel
    have HO := Lib.hid ho; clear ho
    by_cases hlt : i < l.length
    · obtain ⟨r, hx⟩ : ∃ r, l[i]? = some r := ⟨_, List.getElem?_eq_getElem hlt⟩
      obtain ⟨g, rfl, hg, c0, c1⟩ := (HR.out.only HO.out) i r hx
      have e := drop_cons hx
      rw [e] at hn
      simp only [lowest] at hn
      clear e hx
      obtain ⟨rs, rt⟩ := r
      cases rt
      · simp only [Bool.false_eq_true, if_false, Nat.add_zero] at hn
        have HN := Lib.hid hn; clear hn
        go_wp2_with fail
        go_ret
        exact ⟨by rw [← HN.out]; rfl, HO.out.trans (Only.alloc [] _ _) (Within.nil _ _)⟩
      · simp only [if_true] at hn
        go_wp2_with fail
        go_roundw
        case rel => exact ⟨i + 1, by omega, by go_num, HO.out.trans (Only.alloc [] _ _) (Within.nil _ _), by omega⟩
        case measure => simp [intOf]; omega
    · have e : l.drop i = [] := List.drop_eq_nil_of_le (by omega)
      rw [e] at hn
      have hn' : lowest l = l.length := by simp only [lowest] at hn; omega
      have HN := Lib.hid hn'; clear hn hn' e
      go_wp2_with fail
      go_ret
      exact ⟨by rw [HN.out]; rfl, HO.out⟩

set_option maxRecDepth 100000 in
theorem has_any (l : List RowD) (k : Int) (p : Option Addr) (q : Nat) (w : World) (hr : RowsAt w p l) (hk : l.length ≤ 1000000000) :
    Calls Try.prog 34 #[.slice p l.length q, .int .i64 k] w fun e w' => e = .returned (.bool (has l k)) ∧ w = w' := by
  by_cases hin : 0 ≤ k ∧ k < l.length
  · obtain ⟨i, rfl⟩ : ∃ i : Nat, k = (i : Int) := ⟨k.toNat, by omega⟩
    have hlt : i < l.length := by omega
    obtain ⟨r, hx⟩ : ∃ r, l[i]? = some r := ⟨_, List.getElem?_eq_getElem hlt⟩
    obtain ⟨g, rfl, hg, c0, c1⟩ := hr i r hx
    have e : has l (i : Int) = r.there := by
      unfold has
      rw [decide_eq_true hin.1, decide_eq_true hin.2]
      simp [hx]
    rw [e]
    clear hr e hx hin
    go_enter Try.func34, Try.ntmps34
    go_wp2_with fail
    go_ret
    exact ⟨rfl, rfl⟩
  · have e : has l k = false := by
      unfold has
      by_cases h0 : 0 ≤ k
      · rw [decide_eq_false (p := k < l.length) (by omega)]; simp
      · rw [decide_eq_false h0]; simp
    rw [e]
    clear e hr
    by_cases h0 : 0 ≤ k
    · go_enter Try.func34, Try.ntmps34
      go_wp2_with fail
      go_ret
      exact ⟨rfl, rfl⟩
    · go_enter Try.func34, Try.ntmps34
      go_wp2_with fail
      go_ret
      exact ⟨rfl, rfl⟩

/-- What 'page' has written behind i slots' sizes. -/
theorem heads_take (l : List RowD) {i : Nat} {r : RowD} (h : l[i]? = some r) : heads (l.take (i + 1)) = heads (l.take i) ++ varint (sizeNo r) := by
  rw [List.take_add_one, h]
  simp [heads]
theorem bodies_take (l : List RowD) {i : Nat} {r : RowD} (h : l[i]? = some r) : bodies (l.take (i + 1)) = bodies (l.take i) ++ r.s.data.toList := by
  rw [List.take_add_one, h]
  simp [bodies]

set_option maxRecDepth 100000 in
set_option maxHeartbeats 1000000 in
theorem page_any (l : List RowD) (p : Option Addr) (q : Nat) (w : World) (hr : RowsAt w p l) (hk : took l ≤ 512) :
    Calls Try.prog 26 #[.slice p l.length q] w fun e w' => e = .returned (.string (enc l)) ∧ Only [] w w' := by
  have hlen : l.length ≤ 127 := by unfold took at hk; omega
  have hsz : ∀ r ∈ l, r.s.size ≤ 512 := fun r h => by have := size_le_tookOf r h; unfold took at hk; omega
  have hv : (varint l.length).length ≤ 2 := varint_small (by omega)
  have hbod : (bodies l).length ≤ 512 := by rw [bodies_length]; unfold took at hk; omega
  have hhd : (heads l).length ≤ 2 * l.length := heads_length l (fun r h => by have := hsz r h; omega)
  have HR := Lib.hid hr; clear hr
  have HK := Lib.hid hk; clear hk
  have HSZ := Lib.hid hsz; clear hsz
  obtain ⟨b, hb⟩ : ∃ b, b = w.heap.size := ⟨_, rfl⟩
  have hnew := BldAt.new w
  rw [← hb] at hnew
  have HNEW := Lib.hid hnew; clear hnew
  go_enter Try.func26, Try.ntmps26
  go_wp2_with fail
  rw [← hb]
  clear hb
  refine (put_any l.length _ (by omega)).mono ?_
  rintro e w2 ⟨rfl, ho⟩
  have HB2 := Lib.hid (HNEW.out.only ho); clear ho HNEW
  go_wp2_with fail
  refine (HB2.out.write ⟨(varint l.length).toArray⟩ (by show 0 + (varint l.length).toArray.size ≤ _; simp; omega)).mono ?_
  rintro e w3 ⟨rfl, hb3⟩
  have HB3 : Hid (BldAt w b (varint l.length ++ heads (l.take 0)) w3) := by
    have := hb3
    simpa [heads, Hid] using this
  clear hb3 HB2
  have hpre : ∀ i, (heads (l.take i)).length ≤ 256 := by
    intro i
    have := heads_length (l.take i) (fun r h => by have := HSZ.out r (List.mem_of_mem_take h); omega)
    rw [List.length_take] at this
    omega
  have HPRE := Lib.hid hpre; clear hpre
  go_wp2_with fail
  go_loopw [16] (fun s16 wr => ∃ i : Nat, i ≤ l.length ∧ s16 = .int .i64 i ∧ BldAt w b (varint l.length ++ heads (l.take i)) wr) (fun s16 _ => l.length - (intOf s16).toNat)
  case atStart => exact ⟨0, Nat.zero_le _, rfl, HB3.out⟩
  case round =>
    obtain ⟨i, hi, rfl, hb⟩ := hrel
    have HB := Lib.hid hb; clear hb HB3
    by_cases hlt : i < l.length
    · obtain ⟨r, hx⟩ : ∃ r, l[i]? = some r := ⟨_, List.getElem?_eq_getElem hlt⟩
      obtain ⟨g, rfl, hg, c0, c1⟩ := (HR.out.only HB.out.old) i r hx
      have hz := HSZ.out r (List.mem_of_getElem? hx)
      have HT := Lib.hid (heads_take l hx)
      clear hx
      have hp := HPRE.out i
      obtain ⟨rs, rt⟩ := r
      have hz' : rs.size ≤ 512 := hz
      clear hz
      have HN : Hid (BldAt w b (varint l.length ++ heads (l.take i)) (wr.alloc (.cells #[.string rs, .bool rt] 70))) := HB.out.only (Only.alloc _ _ _)
      cases rt
      · go_wp2_with fail
        refine (put_any 0 _ (by omega)).mono ?_
        rintro e w5 ⟨rfl, ho⟩
        have HB5 := Lib.hid (HN.out.only ho); clear ho HN
        have hv0 : (varint 0).length ≤ 2 := varint_small (by omega)
        go_wp2_with fail
        refine (HB5.out.write ⟨(varint 0).toArray⟩ (by show _ + (varint 0).toArray.size ≤ _; simp; omega)).mono ?_
        rintro e w6 ⟨rfl, hb6⟩
        have HB6 : Hid (BldAt w b (varint l.length ++ heads (l.take (i + 1))) w6) := by
          rw [HT.out, ← List.append_assoc]
          exact hb6
        clear hb6 HB5
        go_wp2_with fail
        go_roundw
        case rel => exact ⟨i + 1, by omega, by go_num, HB6.out⟩
        case measure => simp [intOf]; omega
      · have hput : ∀ W, Calls Try.prog 40 #[.int .u64 ((rs.size : Int) + 1)] W fun e w' => e = .returned (.string ⟨(varint (rs.size + 1)).toArray⟩) ∧ Only [] W w' := fun W => put_any (rs.size + 1) W (by omega)
        have HPUT := Lib.hid hput; clear hput
        go_wp2_with fail
        refine (HPUT.out _).mono ?_
        rintro e w5 ⟨rfl, ho⟩
        have HB5 := Lib.hid (HN.out.only ho); clear ho HN
        have hv0 : (varint (rs.size + 1)).length ≤ 2 := varint_small (by omega)
        go_wp2_with fail
        refine (HB5.out.write ⟨(varint (rs.size + 1)).toArray⟩ (by show _ + (varint (rs.size + 1)).toArray.size ≤ _; simp; omega)).mono ?_
        rintro e w6 ⟨rfl, hb6⟩
        have HB6 : Hid (BldAt w b (varint l.length ++ heads (l.take (i + 1))) w6) := by
          rw [HT.out, ← List.append_assoc]
          exact hb6
        clear hb6 HB5
        go_wp2_with fail
        go_roundw
        case rel => exact ⟨i + 1, by omega, by go_num, HB6.out⟩
        case measure => simp [intOf]; omega
    · have HB7 : Hid (BldAt w b (varint l.length ++ heads l ++ bodies (l.take 0)) wr) := by
        have := HB.out
        rw [List.take_of_length_le (by omega)] at this
        simpa [bodies, Hid] using this
      clear HB
      go_wp2_with fail
      go_loopw [33] (fun s33 wq => ∃ i : Nat, i ≤ l.length ∧ s33 = .int .i64 i ∧ BldAt w b (varint l.length ++ heads l ++ bodies (l.take i)) wq) (fun s33 _ => l.length - (intOf s33).toNat)
      case atStart => exact ⟨0, Nat.zero_le _, rfl, HB7.out⟩
      case round =>
        obtain ⟨i, hi, rfl, hb⟩ := hrel
        have HB := Lib.hid hb; clear hb HB7
        by_cases hlt : i < l.length
        · obtain ⟨r, hx⟩ : ∃ r, l[i]? = some r := ⟨_, List.getElem?_eq_getElem hlt⟩
          obtain ⟨g, rfl, hg, c0, c1⟩ := (HR.out.only HB.out.old) i r hx
          have hz := HSZ.out r (List.mem_of_getElem? hx)
          have HT := Lib.hid (bodies_take l hx)
          have hbl : (bodies (l.take i)).length ≤ 512 := by
            have e : (bodies l).length = (bodies (l.take i)).length + (bodies (l.drop i)).length := by
              rw [← List.length_append]
              congr 1
              rw [bodies, bodies, bodies, ← List.flatMap_append, List.take_append_drop]
            omega
          clear hx
          have hh : (heads l).length ≤ 256 := by omega
          obtain ⟨rs, rt⟩ := r
          have hz' : rs.size ≤ 512 := hz
          clear hz
          have HN : Hid (BldAt w b (varint l.length ++ heads l ++ bodies (l.take i)) (wr.alloc (.cells #[.string rs, .bool rt] 70))) := HB.out.only (Only.alloc _ _ _)
          go_wp2_with fail
          refine (HN.out.write rs (by simp only [List.length_append]; omega)).mono ?_
          rintro e w6 ⟨rfl, hb6⟩
          have HB6 : Hid (BldAt w b (varint l.length ++ heads l ++ bodies (l.take (i + 1))) w6) := by
            rw [HT.out, ← List.append_assoc]
            exact hb6
          clear hb6
          go_wp2_with fail
          go_roundw
          case rel => exact ⟨i + 1, by omega, by go_num, HB6.out⟩
          case measure => simp [intOf]; omega
        · have HB8 : Hid (BldAt w b (encL l) wr) := by
            have := HB.out
            rw [List.take_of_length_le (by omega)] at this
            exact this
          clear HB
          have hel : (encL l).length ≤ 512 := Nat.le_trans (encL_length HK.out) HK.out
          go_wp2_with fail
          refine HB8.out.text.mono ?_
          rintro e w9 ⟨rfl, hb9⟩
          have HB9 := Lib.hid hb9; clear hb9 HB8
          go_wp2_with fail
          refine HB9.out.len.mono ?_
          rintro e w9' ⟨rfl, rfl⟩
          go_wp2_with fail
          have hrep : ∀ W, Calls Try.prog 42 #[.string ⟨#[0]⟩, .int .i64 (512 - ((encL l).length : Int))] W fun e w' => e = .returned (.string ⟨(List.replicate (512 - (encL l).length) 0).toArray⟩) ∧ Only [] W w' := fun W => by
            have e : (512 - ((encL l).length : Int)) = ((512 - (encL l).length : Nat) : Int) := by omega
            rw [e]
            exact repeat_byte 0 _ W (by omega)
          have HREP := Lib.hid hrep; clear hrep
          refine (HREP.out _).mono ?_
          rintro e w10 ⟨rfl, ho⟩
          have HO := Lib.hid (HB9.out.old.trans ho (Within.nil _ _)); clear ho HB9
          go_wp2_with fail
          go_ret
          exact ⟨rfl, HO.out⟩

end Go.Proofs.Ytbikgahobkbpaaa
