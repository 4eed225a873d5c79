/-
  What is proved here: what package page's exported functions answer (Empty, Good, Insert, Put, Delete, Get, Slots, Free).
  Condition: texts are no longer than the model's ints.
-/
import Derived.Test.YtbikgahobkbpaaaPageF
namespace Go.Proofs.Ytbikgahobkbpaaa
open Go.RowKit

theorem rows_none {s : ByteArray} (hM : rowsM s = none) {w W : World} {L : List Res} (h : Sep w W L) (hs : s.size ≤ 1000000000000000000) :
    Calls Try.prog 31 #[.string s] W fun e W' => ∃ p q, e = .returned (.tuple #[.slice p ([] : List RowD).length q, .bool false]) ∧ Sep w W' (rowRes 70 2 (.slice p ([] : List RowD).length q) ([] : List RowD).length (rowCells []) :: L) := by
  refine (rows_any s h hs).mono ?_
  rintro e W' ⟨p, q, he, hsep⟩
  rw [hM] at he hsep
  exact ⟨p, q, he, hsep⟩

theorem rows_some {s : ByteArray} {l : List RowD} (hM : rowsM s = some l) {w W : World} {L : List Res} (h : Sep w W L) (hs : s.size ≤ 1000000000000000000) :
    Calls Try.prog 31 #[.string s] W fun e W' => ∃ p q, e = .returned (.tuple #[.slice p l.length q, .bool true]) ∧ Sep w W' (rowRes 70 2 (.slice p l.length q) l.length (rowCells l) :: L) := by
  refine (rows_any s h hs).mono ?_
  rintro e W' ⟨p, q, he, hsep⟩
  rw [hM] at he hsep
  exact ⟨p, q, he, hsep⟩

/-- What rows that were read are like. -/
theorem rowsM_some {s : ByteArray} {l : List RowD} (h : rowsM s = some l) : took l ≤ 512 ∧ lastFree l = false ∧ enc l = s := by
  unfold rowsM at h
  split at h
  · split at h
    · cases h
    · split at h
      · cases h
      · unfold rowsM2 at h
        split at h
        · cases h
        · unfold rowsM3 at h
          split at h
          · cases h
          · split at h
            · cases h
            · rename_i hc
              have h' := Option.some.inj h
              rw [h'] at hc
              refine ⟨Nat.le_of_not_lt fun q => hc (.inl q), ?_, ?_⟩
              · cases e : lastFree l with
                | false => rfl
                | true => exact absurd (.inr (.inl e)) hc
              · by_cases e : enc l = s
                · exact e
                · exact absurd (.inr (.inr e)) hc
  · cases h

theorem took_len {l : List RowD} (h : took l ≤ 512) : l.length ≤ 127 := by unfold took at h; omega

def goodS (s : ByteArray) : Bool := (rowsM s).isSome
def insertS (p s : ByteArray) : ByteArray × Int × Int :=
  match rowsM p with
  | none => (⟨#[]⟩, 0, 11)
  | some l => if (putS l (lowest l) s).2 = 0 then ((putS l (lowest l) s).1, lowest l, 0) else (⟨#[]⟩, 0, (putS l (lowest l) s).2)
def putP (p : ByteArray) (k : Int) (s : ByteArray) : ByteArray × Int :=
  match rowsM p with
  | none => (⟨#[]⟩, 11)
  | some l => if has l k = true then putS l k.toNat s else (⟨#[]⟩, 60)
def delL (l : List RowD) (k : Nat) : List RowD := trim (l.set k RowD.free)
def delP (p : ByteArray) (k : Int) : ByteArray × Int :=
  match rowsM p with
  | none => (⟨#[]⟩, 11)
  | some l => if has l k = true then (enc (delL l k.toNat), 0) else (⟨#[]⟩, 60)
def getP (p : ByteArray) (k : Int) : ByteArray × Int :=
  match rowsM p with
  | none => (⟨#[]⟩, 11)
  | some l => if has l k = true then ((l.getD k.toNat RowD.free).s, 0) else (⟨#[]⟩, 60)
def freeL (l : List RowD) : Int := max (min (if lowest l = l.length then 512 - (took l : Int) - 4 else 512 - (took l : Int)) 400) (-1)
def freeP (p : ByteArray) : Int :=
  match rowsM p with
  | none => -1
  | some l => freeL l
/-- The slots from k on that have a row. -/
def slotsFrom : Nat → List RowD → List Nat
  | _, [] => []
  | k, r :: l => if r.there = true then k :: slotsFrom (k + 1) l else slotsFrom (k + 1) l
def slotsL (l : List RowD) : List Nat := slotsFrom 0 l
def slotsP (p : ByteArray) : List Nat := slotsL ((rowsM p).getD [])

theorem empty_any (w : World) : Calls Try.prog 11 #[] w fun e w' => e = .returned (.string (enc [])) ∧ Only [] w w' := by
  have hp := page_any [] none 0 w (RowsAt.nil _ _) (by decide)
  go_enter Try.func11, Try.ntmps11
  go_wp2_with fail
  refine hp.mono ?_
  rintro e w1 ⟨rfl, ho⟩
  have HO := Lib.hid ho; clear ho
  go_wp2_with fail
  go_ret
  exact ⟨rfl, HO.out⟩

theorem good_any (s : ByteArray) (w : World) (hs : s.size ≤ 1000000000000000000) : Calls Try.prog 25 #[.string s] w fun e w' => e = .returned (.bool (goodS s)) ∧ Only [] w w' := by
  have hr := rows_any s (Sep.nil w) hs
  go_enter Try.func25, Try.ntmps25
  go_wp2_with fail
  refine hr.mono ?_
  rintro e w1 ⟨p, q, rfl, hsep⟩
  have HO := Lib.hid hsep.old; clear hsep
  go_wp2_with fail
  go_ret
  exact ⟨rfl, HO.out⟩

set_option maxHeartbeats 1000000 in
theorem insert_any (p s : ByteArray) (w : World) (hp : p.size ≤ 1000000000000000000) (hs : s.size ≤ 1000000000000000000) :
    Calls Try.prog 16 #[.string p, .string s] w fun e w' => e = .returned (.tuple #[.string (insertS p s).1, .int .i64 (insertS p s).2.1, .int .i64 (insertS p s).2.2]) ∧ Only [] w w' := by
  cases hM : rowsM p with
  | none =>
    have hr := rows_none hM (Sep.nil w) hp
    have HR : Hid (insertS p s = (⟨#[]⟩, 0, 11)) := by show _ = _; unfold insertS; rw [hM]
    clear hM
    go_enter Try.func16, Try.ntmps16
    go_wp2_with fail
    refine hr.mono ?_
    rintro e w1 ⟨a, b, rfl, hsep⟩
    have HO := Lib.hid hsep.old; clear hsep
    go_wp2_with fail
    go_ret3
    rw [HR.out]
    exact ⟨rfl, HO.out⟩
  | some l =>
    have hr := rows_some hM (Sep.nil w) hp
    obtain ⟨ht, _, _⟩ := rowsM_some hM
    have hlen := took_len ht
    have hlow := lowest_le l
    have HR : Hid (insertS p s = if (putS l (lowest l) s).2 = 0 then ((putS l (lowest l) s).1, (lowest l : Int), 0) else (⟨#[]⟩, 0, (putS l (lowest l) s).2)) := by show _ = _; unfold insertS; rw [hM]
    clear hM
    go_enter Try.func16, Try.ntmps16
    go_wp2_with fail
    refine hr.mono ?_
    rintro e w1 ⟨a, b, rfl, hsep⟩
    have HS := Lib.hid hsep; clear hsep hr
    go_wp2_with fail
    refine (lowest_any l a b _ HS.out.rowsAt (by omega)).mono ?_
    rintro e w2 ⟨rfl, ho⟩
    have HS2 := Lib.hid (HS.out.only ho); clear ho HS
    go_wp2_with fail
    refine (put_row l (lowest l) s HS2.out hlow ht hs).mono ?_
    rintro e w3 ⟨rfl, hs3⟩
    have HO := Lib.hid hs3.old; clear hs3 HS2
    generalize putS l (lowest l) s = r at *
    obtain ⟨r1, r2⟩ := r
    by_cases h0 : r2 = 0
    · subst h0
      go_wp2_with fail
      go_ret3
      rw [HR.out]
      exact ⟨rfl, HO.out⟩
    · have h1 : (r2 != 0) = true := by rw [bne_iff_ne]; exact h0
      go_wp2_with fail
      go_ret3
      rw [HR.out, if_neg h0]
      exact ⟨rfl, HO.out⟩

theorem has_true {l : List RowD} {k : Int} (h : has l k = true) : ∃ i : Nat, k = (i : Int) ∧ i < l.length ∧ ∃ r, l[i]? = some r ∧ r.there = true := by
  unfold has at h
  simp only [Bool.and_eq_true, decide_eq_true_eq] at h
  obtain ⟨⟨h1, h2⟩, h3⟩ := h
  refine ⟨k.toNat, by omega, by omega, l.getD k.toNat RowD.free, ?_, h3⟩
  rw [List.getD_eq_getElem?_getD, List.getElem?_eq_getElem (by omega)]; rfl

set_option maxHeartbeats 1000000 in
theorem putp_any (p : ByteArray) (k : Int) (s : ByteArray) (w : World) (hp : p.size ≤ 1000000000000000000) (hs : s.size ≤ 1000000000000000000) :
    Calls Try.prog 17 #[.string p, .int .i64 k, .string s] w fun e w' => e = .returned (.tuple #[.string (putP p k s).1, .int .i64 (putP p k s).2]) ∧ Only [] w w' := by
  cases hM : rowsM p with
  | none =>
    have hr := rows_none hM (Sep.nil w) hp
    have HR : Hid (putP p k s = (⟨#[]⟩, 11)) := by show _ = _; unfold putP; rw [hM]
    clear hM
    go_enter Try.func17, Try.ntmps17
    go_wp2_with fail
    refine hr.mono ?_
    rintro e w1 ⟨a, b, rfl, hsep⟩
    have HO := Lib.hid hsep.old; clear hsep
    go_wp2_with fail
    go_ret2
    rw [HR.out]
    exact ⟨rfl, HO.out⟩
  | some l =>
    have hr := rows_some hM (Sep.nil w) hp
    obtain ⟨ht, _, _⟩ := rowsM_some hM
    have hlen := took_len ht
    have HR : Hid (putP p k s = if has l k = true then putS l k.toNat s else (⟨#[]⟩, 60)) := by show _ = _; unfold putP; rw [hM]
    clear hM
    cases hh : has l k with
    | false =>
      go_enter Try.func17, Try.ntmps17
      go_wp2_with fail
      refine hr.mono ?_
      rintro e w1 ⟨a, b, rfl, hsep⟩
      have HS := Lib.hid hsep; clear hsep hr
      go_wp2_with fail
      refine (has_any l k a b _ HS.out.rowsAt (by omega)).mono ?_
      rintro e w2 ⟨rfl, rfl⟩
      have HH := Lib.hid hh
      rw [hh]
      clear hh
      go_wp2_with fail
      go_ret2
      rw [HR.out, if_neg (by rw [HH.out]; simp)]
      exact ⟨rfl, HS.out.old⟩
    | true =>
      obtain ⟨i, rfl, hi, _⟩ := has_true hh
      go_enter Try.func17, Try.ntmps17
      go_wp2_with fail
      refine hr.mono ?_
      rintro e w1 ⟨a, b, rfl, hsep⟩
      have HS := Lib.hid hsep; clear hsep hr
      go_wp2_with fail
      refine (has_any l i a b _ HS.out.rowsAt (by omega)).mono ?_
      rintro e w2 ⟨rfl, rfl⟩
      have HH := Lib.hid hh
      rw [hh]
      clear hh
      go_wp2_with fail
      refine (put_row l i s HS.out (by omega) ht hs).mono ?_
      rintro e w3 ⟨rfl, hs3⟩
      have HO := Lib.hid hs3.old; clear hs3 HS
      go_wp2_with fail
      go_ret2
      rw [HR.out, if_pos HH.out]
      exact ⟨rfl, HO.out⟩

set_option maxHeartbeats 1000000 in
theorem getp_any (p : ByteArray) (k : Int) (w : World) (hp : p.size ≤ 1000000000000000000) :
    Calls Try.prog 19 #[.string p, .int .i64 k] w fun e w' => e = .returned (.tuple #[.string (getP p k).1, .int .i64 (getP p k).2]) ∧ Only [] w w' := by
  cases hM : rowsM p with
  | none =>
    have hr := rows_none hM (Sep.nil w) hp
    have HR : Hid (getP p k = (⟨#[]⟩, 11)) := by show _ = _; unfold getP; rw [hM]
    clear hM
    go_enter Try.func19, Try.ntmps19
    go_wp2_with fail
    refine hr.mono ?_
    rintro e w1 ⟨a, b, rfl, hsep⟩
    have HO := Lib.hid hsep.old; clear hsep
    go_wp2_with fail
    go_ret2
    rw [HR.out]
    exact ⟨rfl, HO.out⟩
  | some l =>
    have hr := rows_some hM (Sep.nil w) hp
    obtain ⟨ht, _, _⟩ := rowsM_some hM
    have hlen := took_len ht
    have HR : Hid (getP p k = if has l k = true then ((l.getD k.toNat RowD.free).s, 0) else (⟨#[]⟩, 60)) := by show _ = _; unfold getP; rw [hM]
    clear hM
    cases hh : has l k with
    | false =>
      go_enter Try.func19, Try.ntmps19
      go_wp2_with fail
      refine hr.mono ?_
      rintro e w1 ⟨a, b, rfl, hsep⟩
      have HS := Lib.hid hsep; clear hsep hr
      go_wp2_with fail
      refine (has_any l k a b _ HS.out.rowsAt (by omega)).mono ?_
      rintro e w2 ⟨rfl, rfl⟩
      have HH := Lib.hid hh
      rw [hh]
      clear hh
      go_wp2_with fail
      go_ret2
      rw [HR.out, if_neg (by rw [HH.out]; simp)]
      exact ⟨rfl, HS.out.old⟩
    | true =>
      obtain ⟨i, rfl, hi, r, hr1, _⟩ := has_true hh
      go_enter Try.func19, Try.ntmps19
      go_wp2_with fail
      refine hr.mono ?_
      rintro e w1 ⟨a, b, rfl, hsep⟩
      have HS := Lib.hid hsep; clear hsep hr
      go_wp2_with fail
      refine (has_any l i a b _ HS.out.rowsAt (by omega)).mono ?_
      rintro e w2 ⟨rfl, rfl⟩
      have HH := Lib.hid hh
      rw [hh]
      clear hh
      obtain ⟨g, rfl, hg, c0, c1⟩ := HS.out.rowsAt i r hr1
      have HE : Hid (r.s = (l.getD i RowD.free).s) := by show _ = _; rw [List.getD_eq_getElem?_getD, hr1]; rfl
      clear hr1
      go_wp2_with fail
      go_ret2
      rw [HR.out, if_pos HH.out]
      exact ⟨by rw [Int.toNat_natCast, ← HE.out]; rfl, HS.out.old⟩

set_option maxHeartbeats 1000000 in
theorem delp_any (p : ByteArray) (k : Int) (w : World) (hp : p.size ≤ 1000000000000000000) :
    Calls Try.prog 18 #[.string p, .int .i64 k] w fun e w' => e = .returned (.tuple #[.string (delP p k).1, .int .i64 (delP p k).2]) ∧ Only [] w w' := by
  cases hM : rowsM p with
  | none =>
    have hr := rows_none hM (Sep.nil w) hp
    have HR : Hid (delP p k = (⟨#[]⟩, 11)) := by show _ = _; unfold delP; rw [hM]
    clear hM
    go_enter Try.func18, Try.ntmps18
    go_wp2_with fail
    refine hr.mono ?_
    rintro e w1 ⟨a, b, rfl, hsep⟩
    have HO := Lib.hid hsep.old; clear hsep
    go_wp2_with fail
    go_ret2
    rw [HR.out]
    exact ⟨rfl, HO.out⟩
  | some l =>
    have hr := rows_some hM (Sep.nil w) hp
    obtain ⟨ht, _, _⟩ := rowsM_some hM
    have hlen := took_len ht
    have HR : Hid (delP p k = if has l k = true then (enc (delL l k.toNat), 0) else (⟨#[]⟩, 60)) := by show _ = _; unfold delP; rw [hM]
    clear hM
    cases hh : has l k with
    | false =>
      go_enter Try.func18, Try.ntmps18
      go_wp2_with fail
      refine hr.mono ?_
      rintro e w1 ⟨a, b, rfl, hsep⟩
      have HS := Lib.hid hsep; clear hsep hr
      go_wp2_with fail
      refine (has_any l k a b _ HS.out.rowsAt (by omega)).mono ?_
      rintro e w2 ⟨rfl, rfl⟩
      have HH := Lib.hid hh
      rw [hh]
      clear hh
      go_wp2_with fail
      go_ret2
      rw [HR.out, if_neg (by rw [HH.out]; simp)]
      exact ⟨rfl, HS.out.old⟩
    | true =>
      obtain ⟨i, rfl, hi, r, hr1, _⟩ := has_true hh
      go_enter Try.func18, Try.ntmps18
      go_wp2_with fail
      refine hr.mono ?_
      rintro e w1 ⟨a, b, rfl, hsep⟩
      have HS := Lib.hid hsep; clear hsep hr
      go_wp2_with fail
      refine (has_any l i a b _ HS.out.rowsAt (by omega)).mono ?_
      rintro e w2 ⟨rfl, rfl⟩
      have HH := Lib.hid hh
      rw [hh]
      clear hh
      obtain ⟨g, rfl⟩ := HS.out.rowAt (by rw [rowCells_length]; omega)
      obtain ⟨r0, r1⟩ := rowCells_at _ _ _ hr1
      obtain ⟨c0, f0⟩ := HS.out.rowCell r0
      obtain ⟨c1, f1⟩ := HS.out.rowCell r1
      clear r0 r1 hr1
      have HT2 : Hid (Sep w ((w1.setCell ⟨g, i * 2, none⟩ (.string ⟨#[]⟩)).setCell ⟨g, i * 2 + 1, none⟩ (.bool false)) [rowRes 70 2 (.slice (some ⟨g, 0, none⟩) l.length b) l.length (rowCells (l.set i RowD.free))]) := by
        have := (HS.out.rowStore (i * 2) (.string ⟨#[]⟩)).rowStore (i * 2 + 1) (.bool false)
        have e : ((rowCells l).set (i * 2) (.string ⟨#[]⟩)).set (i * 2 + 1) (.bool false) = rowCells (l.set i RowD.free) := rowCells_set l i RowD.free hi
        rw [e] at this
        exact this
      have hset := took_prefix (trim_prefix (l.set i RowD.free))
      have htk : took (l.set i RowD.free) ≤ 512 := by
        have := tookOf_set l i RowD.free hi
        have hz : RowD.free.s.size = 0 := rfl
        rw [hz] at this
        unfold took at ht ⊢
        rw [List.length_set]
        omega
      have hcap : l.length ≤ b := HT2.out.rowCap
      have hrows := HT2.out.rowsAt
      have hcut := cut_any (l.set i RowD.free) (some ⟨g, 0, none⟩) b _ hrows (by rw [List.length_set]; omega) (by rw [List.length_set]; exact hcap)
      rw [List.length_set] at hcut
      have hpg := page_any (delL l i) (some ⟨g, 0, none⟩) b _ (hrows.prefix (trim_prefix _)) (Nat.le_trans hset htk)
      have HCUT := Lib.hid hcut; clear hcut
      have HPG := Lib.hid hpg; clear hpg
      clear hrows hset htk
      go_wp2_with fail
      refine HCUT.out.mono ?_
      rintro e w3 ⟨rfl, rfl⟩
      go_wp2_with fail
      refine HPG.out.mono ?_
      rintro e w4 ⟨rfl, ho⟩
      have HO := Lib.hid (HT2.out.old.trans ho (Within.nil _ _)); clear ho
      go_wp2_with fail
      go_ret2
      rw [HR.out, if_pos HH.out]
      exact ⟨rfl, HO.out⟩

set_option maxHeartbeats 1000000 in
theorem slots_any (s : ByteArray) {w W : World} {L : List Res} (h : Sep w W L) (hs : s.size ≤ 1000000000000000000) :
    Calls Try.prog 22 #[.string s] W fun e W' => ∃ p q, e = .returned (.slice p (slotsP s).length q) ∧ Sep w W' (rowRes 3 1 (.slice p (slotsP s).length q) (slotsP s).length (natCells (slotsP s)) :: L) := by
  have hr := rows_any s h hs
  obtain ⟨ii, II⟩ := info_of Try.infoIntP
  have hl : ((rowsM s).getD []).length ≤ 127 := by
    cases hM : rowsM s with
    | none => simp
    | some l => exact took_len (rowsM_some hM).1
  have HSL : Hid (slotsP s = slotsL ((rowsM s).getD [])) := rfl
  have hr' : Calls Try.prog 31 #[.string s] W fun e W' => ∃ (l : List RowD) (p : Option Addr) (q : Nat) (ok : Bool), l = (rowsM s).getD [] ∧ e = .returned (.tuple #[.slice p l.length q, .bool ok]) ∧ Sep w W' (rowRes 70 2 (.slice p l.length q) l.length (rowCells l) :: L) :=
    hr.mono fun e W' ⟨p, q, he, hsep⟩ => ⟨_, p, q, _, rfl, he, hsep⟩
  clear hr h
  go_enter Try.func22, Try.ntmps22
  go_wp2_with fail
  go_step3
  go_wp2_with fail
  refine hr'.mono ?_
  rintro e w1 ⟨l, p, q, ok, hle, rfl, hsep⟩
  rw [← hle] at HSL hl
  have HL := Lib.hid hle; clear hle hr'
  have HS := Lib.hid (hsep.row_nil 3 1); clear hsep
  go_wp2_with fail
  go_step3
  go_wp2_with fail
  go_loopw [5, 15] (fun s5 s15 wr => ∃ (i : Nat) (done : List Nat) (a : Option Addr) (b : Nat), i ≤ l.length ∧ s15 = .int .i64 i ∧ s5 = .slice a done.length b ∧ done.length ≤ i ∧ done ++ slotsFrom i (l.drop i) = slotsL l ∧ Sep w wr (rowRes 3 1 (.slice a done.length b) done.length (natCells done) :: rowRes 70 2 (.slice p l.length q) l.length (rowCells l) :: L)) (fun _ s15 _ => l.length - (intOf s15).toNat)
  case atStart => exact ⟨0, [], none, 0, Nat.zero_le _, rfl, rfl, Nat.zero_le _, rfl, HS.out⟩
  case round =>
    obtain ⟨i, done, a, b, hi, rfl, rfl, hdl, hd, hs1⟩ := hrel
    have HT := Lib.hid hs1; clear hs1 HS
    by_cases hlt : i < l.length
    · obtain ⟨r, hx⟩ : ∃ r, l[i]? = some r := ⟨_, List.getElem?_eq_getElem hlt⟩
      obtain ⟨g, rfl, hg, c0, c1⟩ := HT.out.up1.rowsAt i r hx
      rw [drop_cons hx] at hd
      clear hx
      obtain ⟨rs, rt⟩ := r
      have HN := Lib.hid (HT.out.forget (.cells #[.string rs, .bool rt] 70))
      cases rt
      · simp only [slotsFrom, Bool.false_eq_true, if_false] at hd
        have HD := Lib.hid hd; clear hd
        go_wp2_with fail
        go_roundw
        case rel => exact ⟨i + 1, done, a, b, by omega, by go_num, rfl, by omega, HD.out, HN.out⟩
        case measure => simp [intOf]; omega
      · simp only [slotsFrom, if_true] at hd
        have HD : Hid ((done ++ [i]) ++ slotsFrom (i + 1) (l.drop (i + 1)) = slotsL l) := by
          show _ = _
          rw [← hd]; simp
        clear hd
        go_wp2_with (at_builtin; go_must (refine wpList_append_sep (e := 3) (w := w) (l := rowRes 70 2 (.slice (some ⟨g, 0, none⟩) l.length q) l.length (rowCells l) :: L) rfl (.tmp 23) (.tmp 25) 35 rfl ii _ 1 8 Try.underlying35 II.out rfl (by decide) _ done.length (natCells done) rfl rfl (by simp) rfl ?one HN.out (by unfold maxLen; omega) (by omega) ?_))
        case one => simp [Value.oneCell']
        intro p' q' w' hs'
        have HS' : Hid (Sep w w' (rowRes 3 1 (.slice p' (done ++ [i]).length q') (done ++ [i]).length (natCells (done ++ [i])) :: rowRes 70 2 (.slice (some ⟨g, 0, none⟩) l.length q) l.length (rowCells l) :: L)) := by
          have e : natCells (done ++ [i]) = natCells done ++ [.int .i64 (i : Int)] := by simp [natCells]
          show Sep _ _ _
          rw [e, List.length_append]
          exact hs'
        clear hs'
        go_wp2_with fail
        go_roundw
        case rel => exact ⟨i + 1, done ++ [i], p', q', by omega, by go_num, by simp, by simp; omega, HD.out, HS'.out⟩
        case measure => simp [intOf]; omega
    · rw [List.drop_eq_nil_of_le (by omega)] at hd
      have hd' : slotsP s = done := by rw [HSL.out, ← hd]; simp [slotsFrom]
      have HD := Lib.hid hd'; clear hd hd'
      go_wp2_with fail
      try rw [Exit.noGoto_ret]
      go_ret
      rw [HD.out]
      exact ⟨a, b, rfl, HT.out.up1.tail⟩

set_option maxHeartbeats 1000000 in
theorem free_any (s : ByteArray) (w : World) (hs : s.size ≤ 1000000000000000000) :
    Calls Try.prog 20 #[.string s] w fun e w' => e = .returned (.int .i64 (freeP s)) ∧ Only [] w w' := by
  cases hM : rowsM s with
  | none =>
    have hr := rows_none hM (Sep.nil w) hs
    have HR : Hid (freeP s = -1) := by show _ = _; unfold freeP; rw [hM]
    clear hM
    go_enter Try.func20, Try.ntmps20
    go_wp2_with fail
    refine hr.mono ?_
    rintro e w1 ⟨a, b, rfl, hsep⟩
    have HO := Lib.hid hsep.old; clear hsep
    go_wp2_with fail
    go_ret
    rw [HR.out]
    exact ⟨rfl, HO.out⟩
  | some l =>
    have hr := rows_some hM (Sep.nil w) hs
    obtain ⟨ht, _, _⟩ := rowsM_some hM
    have hlen := took_len ht
    have hlow := lowest_le l
    have HR : Hid (freeP s = freeL l) := by show _ = _; unfold freeP; rw [hM]
    clear hM
    go_enter Try.func20, Try.ntmps20
    go_wp2_with fail
    refine hr.mono ?_
    rintro e w1 ⟨a, b, rfl, hsep⟩
    have HS := Lib.hid hsep; clear hsep hr
    go_wp2_with fail
    refine (took_any l a b _ HS.out.rowsAt (by omega)).mono ?_
    rintro e w2 ⟨rfl, ho⟩
    have HS2 := Lib.hid (HS.out.only ho); clear ho HS
    go_wp2_with fail
    refine (lowest_any l a b _ HS2.out.rowsAt (by omega)).mono ?_
    rintro e w3 ⟨rfl, ho⟩
    have HS3 := Lib.hid (HS2.out.only ho); clear ho HS2
    by_cases hq : lowest l = l.length
    · have hq' : (lowest l : Int) = l.length := by omega
      have HQ := Lib.hid hq; clear hq
      go_wp2_with fail
      go_ret
      exact ⟨by rw [HR.out]; unfold freeL; rw [if_pos HQ.out]; rfl, HS3.out.old⟩
    · have hq' : ¬ (lowest l : Int) = l.length := by omega
      have HQ := Lib.hid hq; clear hq
      go_wp2_with fail
      go_ret
      exact ⟨by rw [HR.out]; unfold freeL; rw [if_neg HQ.out]; rfl, HS3.out.old⟩

end Go.Proofs.Ytbikgahobkbpaaa
