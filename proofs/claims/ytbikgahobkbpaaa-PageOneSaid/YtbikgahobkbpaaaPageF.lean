/-
  What is proved here: what package page's functions answer: put, cut, and the exported ones (Empty, Good, Insert, Put, Delete, Get, Slots, Free).
  Condition: texts are no longer than the model's ints.
-/
import Derived.Test.YtbikgahobkbpaaaPageR
namespace Go.Proofs.Ytbikgahobkbpaaa
open Go.RowKit

/-- What 'put' answers. -/
def putS (l : List RowD) (k : Nat) (s : ByteArray) : ByteArray × Int :=
  if 400 < s.size then (⟨#[]⟩, 2) else if 512 < took (putL l k s) then (⟨#[]⟩, 50) else (enc (putL l k s), 0)

theorem tookOf_append (l l' : List RowD) : tookOf (l ++ l') = tookOf l + tookOf l' := by
  induction l with
  | nil => simp [tookOf]
  | cons x l ih => simp only [List.cons_append, tookOf, ih]; omega
theorem tookOf_set (l : List RowD) : ∀ (k : Nat) (r : RowD), k < l.length → tookOf (l.set k r) + (l.getD k RowD.free).s.size = tookOf l + r.s.size := by
  induction l with
  | nil => intro k r h; simp at h
  | cons x l ih =>
    intro k r h
    cases k with
    | zero => simp [tookOf]; omega
    | succ k =>
      have := ih k r (by simpa using h)
      simp only [List.set_cons_succ, tookOf, List.getD_cons_succ]
      omega

theorem putL_took (l : List RowD) (k : Nat) (s : ByteArray) (hk : k ≤ l.length) : took (putL l k s) ≤ took l + 4 + s.size := by
  unfold putL
  split
  · simp only [took, List.length_append, tookOf_append, List.length_cons, List.length_nil, tookOf]
    omega
  · have := tookOf_set l k ⟨s, true⟩ (by omega)
    simp only [took, List.length_set]
    simp only at this
    omega

set_option maxRecDepth 100000 in
set_option maxHeartbeats 1000000 in
theorem put_row (l : List RowD) (k : Nat) (s : ByteArray) {p : Option Addr} {q : Nat} {w W : World} {L : List Res} (h : Sep w W (rowRes 70 2 (.slice p l.length q) l.length (rowCells l) :: L))
    (hk : k ≤ l.length) (hl : took l ≤ 512) (hs : s.size ≤ 1000000000000000000) :
    Calls Try.prog 33 #[.slice p l.length q, .int .i64 k, .string s] W fun e W' => e = .returned (.tuple #[.string (putS l k s).1, .int .i64 (putS l k s).2]) ∧ Sep w W' L := by
  have HS := Lib.hid h; clear h
  have hlen : l.length ≤ 127 := by unfold took at hl; omega
  have htk := putL_took l k s hk
  obtain ⟨ir, IR⟩ := info_of Try.infoRowP
  go_enter Try.func33, Try.ntmps33
  go_upto_if 11 with fail
  go_cut [0] (fun s0 wx => ∃ (l1 : List RowD) (p1 : Option Addr) (q1 : Nat), s0 = .slice p1 l1.length q1 ∧ k < l1.length ∧ l1.length ≤ 128 ∧ l1.set k ⟨s, true⟩ = putL l k s ∧ Sep w wx (rowRes 70 2 (.slice p1 l1.length q1) l1.length (rowCells l1) :: L))
  case first =>
    by_cases he : k = l.length
    · subst he
      have HP : Hid ((l ++ [RowD.free]).set l.length ⟨s, true⟩ = putL l l.length s) := by
        show _ = _
        unfold putL
        rw [if_pos rfl, List.set_append_right _ _ (Nat.le_refl _), Nat.sub_self]; rfl
      go_wp2_with (at_builtin; go_must (refine wpList_append_sep (e := 70) (w := w) (l := L) rfl (.tmp 12) (.tmp 14) 63 rfl ir _ 2 24 Try.underlying63 IR.out rfl (by decide) _ l.length (rowCells l) rfl rfl (by simp) rfl ?one HS.out (by unfold maxLen; omega) (by omega) ?_))
      case one => simp [Value.oneCell']
      intro p' q' w' hs'
      have HS' : Hid (Sep w w' (rowRes 70 2 (.slice p' (l ++ [RowD.free]).length q') (l ++ [RowD.free]).length (rowCells (l ++ [RowD.free])) :: L)) := by
        have e : rowCells (l ++ [RowD.free]) = rowCells l ++ [.string ⟨#[]⟩, .bool false] := by rw [rowCells_append]; rfl
        show Sep _ _ _
        rw [e, List.length_append]
        exact hs'
      clear hs'
      go_wp2_with fail
      go_meet
      exact ⟨l ++ [RowD.free], p', q', by simp, by simp, by simp; omega, HP.out, HS'.out⟩
    · have HP : Hid (l.set k ⟨s, true⟩ = putL l k s) := by
        show _ = _
        unfold putL
        rw [if_neg he]
      go_wp2_with fail
      go_meet
      exact ⟨l, p, q, rfl, by omega, by omega, HP.out, HS.out⟩
  case rest =>
    obtain ⟨l1, p1, q1, rfl, hk1, hl1, hset, hsep⟩ := hcut
    have HT := Lib.hid hsep; clear hsep HS
    have HSET := Lib.hid hset; clear hset
    obtain ⟨r, hr⟩ : ∃ r, l1[k]? = some r := ⟨_, List.getElem?_eq_getElem hk1⟩
    obtain ⟨g, rfl⟩ := HT.out.rowAt (by rw [rowCells_length]; omega)
    obtain ⟨r0, r1⟩ := rowCells_at _ _ _ hr
    obtain ⟨c0, f0⟩ := HT.out.rowCell r0
    obtain ⟨c1, f1⟩ := HT.out.rowCell r1
    clear r0 r1 hr
    have HT2 : Hid (Sep w ((wc.setCell ⟨g, k * 2, none⟩ (.string s)).setCell ⟨g, k * 2 + 1, none⟩ (.bool true)) (rowRes 70 2 (.slice (some ⟨g, 0, none⟩) l1.length q1) l1.length (rowCells (putL l k s)) :: L)) := by
      have := (HT.out.rowStore (k * 2) (.string s)).rowStore (k * 2 + 1) (.bool true)
      rw [rowCells_set _ k ⟨s, true⟩ hk1, HSET.out] at this
      exact this
    have hpl : (putL l k s).length = l1.length := by rw [← HSET.out]; simp
    have HPL := Lib.hid hpl; clear hpl
    by_cases h4 : 400 < s.size
    · have HR : Hid (putS l k s = (⟨#[]⟩, 2)) := by show _ = _; unfold putS; rw [if_pos h4]
      go_wp2_with fail
      go_ret2
      rw [HR.out]
      exact ⟨rfl, HT2.out.tail⟩
    · have htook : took (putL l k s) ≤ 1000000 := by omega
      have hrows : RowsAt ((wc.setCell ⟨g, k * 2, none⟩ (.string s)).setCell ⟨g, k * 2 + 1, none⟩ (.bool true)) (some ⟨g, 0, none⟩) (putL l k s) := HT2.out.rowsAt
      have htook := took_any (putL l k s) (some ⟨g, 0, none⟩) q1 _ hrows (by omega)
      have hpage := fun W hW => page_any (putL l k s) (some ⟨g, 0, none⟩) q1 W hW
      rw [HPL.out] at htook
      simp only [HPL.out] at hpage
      have HTOOK := Lib.hid htook; clear htook
      have HPAGE := Lib.hid hpage; clear hpage
      have HROWS := Lib.hid hrows; clear hrows
      go_wp2_with fail
      refine HTOOK.out.mono ?_
      rintro e w3 ⟨rfl, ho⟩
      have HR3 := Lib.hid (HROWS.out.only ho)
      have HO3 := Lib.hid (HT2.out.tail.only ho); clear ho HTOOK
      by_cases h5 : 512 < took (putL l k s)
      · have HR : Hid (putS l k s = (⟨#[]⟩, 50)) := by show _ = _; unfold putS; rw [if_neg h4, if_pos h5]
        go_wp2_with fail
        go_ret2
        rw [HR.out]
        exact ⟨rfl, HO3.out⟩
      · have HR : Hid (putS l k s = (enc (putL l k s), 0)) := by show _ = _; unfold putS; rw [if_neg h4, if_neg h5]
        have HPG := Lib.hid (HPAGE.out _ HR3.out (by omega)); clear HPAGE
        go_wp2_with fail
        refine HPG.out.mono ?_
        rintro e w4 ⟨rfl, ho⟩
        have HO4 := Lib.hid (HO3.out.only ho); clear ho
        go_wp2_with fail
        go_ret2
        rw [HR.out]
        exact ⟨rfl, HO4.out⟩

/-- Rows without those that are free at the end. -/
def trim (l : List RowD) : List RowD := (l.reverse.dropWhile fun r => !r.there).reverse

theorem trim_nil : trim [] = [] := rfl
theorem trim_there (l : List RowD) (r : RowD) (h : r.there = true) : trim (l ++ [r]) = l ++ [r] := by simp [trim, h]
theorem trim_free (l : List RowD) (r : RowD) (h : r.there = false) : trim (l ++ [r]) = trim l := by simp [trim, h]
theorem trim_prefix (l : List RowD) : trim l <+: l := by
  unfold trim
  have h := List.dropWhile_suffix (fun r : RowD => !r.there) (l := l.reverse)
  have := List.reverse_prefix.2 h
  simpa using this
theorem take_last {α : Type} {l : List α} {n : Nat} {x : α} (h : l[n]? = some x) : l.take (n + 1) = l.take n ++ [x] := by
  rw [List.take_add_one, h]; rfl

theorem took_prefix {l l' : List RowD} (h : l' <+: l) : took l' ≤ took l := by
  obtain ⟨t, rfl⟩ := h
  simp only [took, List.length_append, tookOf_append]
  omega

theorem RowsAt.prefix {W : World} {p : Option Addr} {l l' : List RowD} (h : RowsAt W p l) (hp : l' <+: l) : RowsAt W p l' := by
  obtain ⟨t, rfl⟩ := hp
  intro k r hr
  exact h k r (by rw [List.getElem?_append_left (by obtain ⟨h', _⟩ := List.getElem?_eq_some_iff.1 hr; exact h')]; exact hr)

theorem Sep.rowCap {w W : World} {e : TypeId} {size : Nat} {p : Option Addr} {n q : Nat} {xs : List Value} {l : List Res} (h : Sep w W (rowRes e size (.slice p n q) n xs :: l)) : n ≤ q := by
  rcases h.row.2 with ⟨h1, h2⟩ | ⟨g, cap, cur, hv, _, _, hc, _⟩
  · omega
  · simp only [Value.slice.injEq] at hv
    omega

set_option maxRecDepth 100000 in
theorem cut_any (l : List RowD) (p : Option Addr) (q : Nat) (w : World) (hr : RowsAt w p l) (hk : l.length ≤ 1000000) (hq : l.length ≤ q) :
    Calls Try.prog 35 #[.slice p l.length q] w fun e w' => e = .returned (.slice p (trim l).length q) ∧ w = w' := by
  have HR := Lib.hid hr; clear hr
  go_enter Try.func35, Try.ntmps35
  go_wp2_with fail
  go_loopw [0] (fun s0 wr => ∃ n : Nat, n ≤ l.length ∧ s0 = .slice p n q ∧ w = wr ∧ trim (l.take n) = trim l) (fun s0 _ => match s0 with | .slice _ n _ => n | _ => 0)
  case atStart => exact ⟨l.length, Nat.le_refl _, rfl, rfl, by rw [List.take_length]⟩
  case round =>
    obtain ⟨n, hn, rfl, rfl, ht⟩ := hrel
    cases n with
    | zero =>
      have e : (trim l).length = 0 := by rw [← ht]; rfl
      have E := Lib.hid e; clear e ht
      go_wp2_with fail
      go_ret
      exact ⟨by rw [E.out]; rfl, rfl⟩
    | succ n =>
      obtain ⟨r, hx⟩ : ∃ r, l[n]? = some r := ⟨_, List.getElem?_eq_getElem (by omega)⟩
      obtain ⟨g, rfl, hg, c0, c1⟩ := HR.out n r hx
      rw [take_last hx] at ht
      have hi : ((n + 1 : Nat) : Int) - 1 = n := by omega
      obtain ⟨rs, rt⟩ := r
      cases rt
      · rw [trim_free _ _ rfl] at ht
        clear hx
        go_wp2_with fail
        go_roundw
        case rel => exact ⟨n, by omega, rfl, trivial, ht⟩
        case measure => exact Nat.lt_succ_self n
      · rw [trim_there _ _ rfl] at ht
        have e : (trim l).length = n + 1 := by rw [← ht, ← take_last hx, List.length_take]; omega
        have E := Lib.hid e; clear e ht hx
        go_wp2_with fail
        go_ret
        exact ⟨by rw [E.out]; rfl, rfl⟩

end Go.Proofs.Ytbikgahobkbpaaa
