/-
  What is proved here: the document's page ('refPg') as a part of memory: what its calls that only read answer.
  Conditions: a page's rows take at most a billion bytes.
-/
import Derived.Test.YtbikgahobkbpaaaPageS
import Derived.Deep.RegionHeld3
import Derived.Deep.DeepMust
import Derived.Deep.QuietTactic
import Derived.BigQuiet
namespace Go.Proofs.Ytbikgahobkbpaaa
open Go.RowKit

def pgParts (b : Nat) (l : List RowD) (x : Option Addr × Nat) : List Res :=
  [blkRes b (.cells #[.slice x.1 l.length x.2] 29 (0, 0)), rowRes 61 2 (.slice x.1 l.length x.2) l.length (rowCells l)]

/-- The document's page at block b has the rows l. -/
def refPg (b : Nat) (l : List RowD) : Res := exRes (pgParts b l) (fun _ => True)

theorem Sep.slotsAt {w W : World} {p : Option Addr} {n q : Nat} {rs : List RowD} {l : List Res} (h : Sep w W (rowRes 61 2 (.slice p n q) n (rowCells rs) :: l)) : RowsAt W p rs := by
  intro k r hr
  obtain ⟨h1, h2⟩ := rowCells_at rs k r hr
  obtain ⟨g, e, c1, _⟩ := ownsRow_cell_of h.row h1
  obtain ⟨g', e', c2, _⟩ := ownsRow_cell_of h.row h2
  subst e
  simp only [Option.some.injEq, Addr.mk.injEq, and_true] at e'
  subst e'
  exact ⟨g, rfl, cell_lt c1, c1, c2⟩

/-- What a call that only reads knows of the page. -/
theorem pg_at {w W : World} {b : Nat} {l : List RowD} {L : List Res} (h : Sep w W (refPg b l :: L)) : ∃ p q, W.cell? ⟨b, 0, none⟩ = some (.slice p l.length q) ∧ RowsAt W p l ∧ l.length ≤ q ∧
    Sep w W (blkRes b (.cells #[.slice p l.length q] 29 (0, 0)) :: rowRes 61 2 (.slice p l.length q) l.length (rowCells l) :: L) := by
  obtain ⟨⟨p, q⟩, hs, _⟩ := h.open
  have hs' : Sep w W (blkRes b (.cells #[.slice p l.length q] 29 (0, 0)) :: rowRes 61 2 (.slice p l.length q) l.length (rowCells l) :: L) := hs
  exact ⟨p, q, cell_of_block hs'.blk 0 rfl, hs'.up1.slotsAt, hs'.up1.rowCap, hs'⟩

theorem pg_close {w W : World} {b : Nat} {l : List RowD} {L : List Res} {p : Option Addr} {q : Nat} (h : Sep w W (blkRes b (.cells #[.slice p l.length q] 29 (0, 0)) :: rowRes 61 2 (.slice p l.length q) l.length (rowCells l) :: L)) : Sep w W (refPg b l :: L) :=
  Sep.close (ps := pgParts b l) (p, q) h trivial

section
variable {w W : World} {b : Nat} {l : List RowD} {L : List Res}

set_option maxRecDepth 100000 in
theorem rp_size (h : Sep w W (refPg b l :: L)) (hk : took l ≤ 1000000000) :
    Calls Try.prog 45 #[.pointer (some ⟨b, 0, none⟩)] W fun e W' => e = .returned (.int .i64 (took l)) ∧ W = W' := by
  obtain ⟨p, q, c, hr, _, _⟩ := pg_at h
  have HR := Lib.hid hr; clear hr h
  have hk1 : 4 + 4 * l.length + tookOf l ≤ 1000000000 := hk
  clear hk
  go_enter Try.func45, Try.ntmps45
  go_wp2_with fail
  go_loopw [3, 4] (fun s3 s4 wr => ∃ i n : Nat, i ≤ l.length ∧ s3 = .int .i64 n ∧ s4 = .int .i64 i ∧ W = wr ∧ n + tookOf (l.drop i) = took l) (fun _ s4 _ => l.length - (intOf s4).toNat)
  case atStart => exact ⟨0, 4 + 4 * l.length, Nat.zero_le _, by go_num, rfl, rfl, rfl⟩
  case round =>
    obtain ⟨i, n, hi, rfl, rfl, rfl, hn⟩ := hrel
    by_cases hlt : i < l.length
    · obtain ⟨r, hx⟩ : ∃ r, l[i]? = some r := ⟨_, List.getElem?_eq_getElem hlt⟩
      obtain ⟨g, rfl, hg, c0, c1⟩ := HR.out i r hx
      have e := drop_cons hx
      rw [e] at hn
      simp only [tookOf] at hn
      have htk : took l = 4 + 4 * l.length + tookOf l := rfl
      clear e hx
      go_wp2_with fail
      go_roundw
      case rel => exact ⟨i + 1, n + r.s.size, by omega, by go_num, by go_num, trivial, by omega⟩
      case measure => simp [intOf]; omega
    · have e : l.drop i = [] := List.drop_eq_nil_of_le (by omega)
      rw [e] at hn
      have hn' : n = took l := by simpa [tookOf] using hn
      subst hn'
      go_wp2_with fail
      go_ret
      exact ⟨rfl, rfl⟩

set_option maxRecDepth 100000 in
theorem rp_first (h : Sep w W (refPg b l :: L)) (hk : l.length ≤ 1000000000) :
    Calls Try.prog 44 #[.pointer (some ⟨b, 0, none⟩)] W fun e W' => e = .returned (.int .i64 (lowest l)) ∧ W = W' := by
  obtain ⟨p, q, c, hr, _, _⟩ := pg_at h
  have HR := Lib.hid hr; clear hr h
  go_enter Try.func44, Try.ntmps44
  go_wp2_with fail
  go_loopw [3] (fun s3 wr => ∃ i : Nat, i ≤ l.length ∧ s3 = .int .i64 i ∧ W = wr ∧ i + lowest (l.drop i) = lowest l) (fun s3 _ => l.length - (intOf s3).toNat)
  case atStart => exact ⟨0, Nat.zero_le _, rfl, rfl, by simp⟩
  case round =>
    obtain ⟨i, hi, rfl, rfl, hn⟩ := hrel
    by_cases hlt : i < l.length
    · obtain ⟨r, hx⟩ : ∃ r, l[i]? = some r := ⟨_, List.getElem?_eq_getElem hlt⟩
      obtain ⟨g, rfl, hg, c0, c1⟩ := HR.out i r hx
      have e := drop_cons hx
      rw [e] at hn
      simp only [lowest] at hn
      clear e hx
      obtain ⟨rs, rt⟩ := r
      cases rt
      · simp only [Bool.false_eq_true, if_false, Nat.add_zero] at hn
        have HN := Lib.hid hn; clear hn
        go_wp2_with fail
        go_ret
        exact ⟨by rw [← HN.out]; rfl, rfl⟩
      · simp only [if_true] at hn
        go_wp2_with fail
        go_roundw
        case rel => exact ⟨i + 1, by omega, by go_num, trivial, by omega⟩
        case measure => simp [intOf]; omega
    · have e : l.drop i = [] := List.drop_eq_nil_of_le (by omega)
      rw [e] at hn
      have hn' : lowest l = l.length := by simp only [lowest] at hn; omega
      have HN := Lib.hid hn'; clear hn hn' e
      go_wp2_with fail
      go_ret
      exact ⟨by rw [HN.out]; rfl, rfl⟩

set_option maxRecDepth 100000 in
theorem rp_has (k : Int) (h : Sep w W (refPg b l :: L)) (hk : l.length ≤ 1000000000) :
    Calls Try.prog 30 #[.pointer (some ⟨b, 0, none⟩), .int .i64 k] W fun e W' => e = .returned (.bool (has l k)) ∧ W = W' := by
  obtain ⟨p, q, c, hr, _, _⟩ := pg_at h
  by_cases hin : 0 ≤ k ∧ k < l.length
  · obtain ⟨i, rfl⟩ : ∃ i : Nat, k = (i : Int) := ⟨k.toNat, by omega⟩
    have hlt : i < l.length := by omega
    obtain ⟨r, hx⟩ : ∃ r, l[i]? = some r := ⟨_, List.getElem?_eq_getElem hlt⟩
    obtain ⟨g, rfl, hg, c0, c1⟩ := hr i r hx
    have e : has l (i : Int) = r.there := by
      unfold has
      rw [decide_eq_true hin.1, decide_eq_true hin.2]
      simp [hx]
    rw [e]
    clear hr e hx hin h
    go_enter Try.func30, Try.ntmps30
    go_wp2_with fail
    go_ret
    exact ⟨rfl, rfl⟩
  · have e : has l k = false := by
      unfold has
      by_cases h0 : 0 ≤ k
      · rw [decide_eq_false (p := k < l.length) (by omega)]; simp
      · rw [decide_eq_false h0]; simp
    rw [e]
    clear e hr h
    by_cases h0 : 0 ≤ k
    · go_enter Try.func30, Try.ntmps30
      go_wp2_with fail
      go_ret
      exact ⟨rfl, rfl⟩
    · go_enter Try.func30, Try.ntmps30
      go_wp2_with fail
      go_ret
      exact ⟨rfl, rfl⟩

/-- What 'Get' answers. -/
def getR (l : List RowD) (k : Int) : ByteArray × Int := if has l k = true then ((l.getD k.toNat RowD.free).s, 0) else (⟨#[]⟩, 60)

theorem rp_get (k : Int) (h : Sep w W (refPg b l :: L)) (hk : l.length ≤ 1000000000) :
    Calls Try.prog 15 #[.pointer (some ⟨b, 0, none⟩), .int .i64 k] W fun e W' => e = .returned (.tuple #[.string (getR l k).1, .int .i64 (getR l k).2]) ∧ W = W' := by
  obtain ⟨p, q, c, hr, _, _⟩ := pg_at h
  have HS := Lib.hid h; clear h
  cases hh : has l k with
  | false =>
    have HE : Hid (getR l k = (⟨#[]⟩, 60)) := by show _ = _; unfold getR; rw [if_neg (by rw [hh]; simp)]
    clear hr
    go_enter Try.func15, Try.ntmps15
    go_wp2_with fail
    refine (rp_has k HS.out hk).mono ?_
    rintro e w2 ⟨rfl, rfl⟩
    rw [hh]
    clear hh
    go_wp2_with fail
    go_ret2
    rw [HE.out]
    exact ⟨rfl, rfl⟩
  | true =>
    obtain ⟨i, rfl, hi, r, hr1, _⟩ := has_true hh
    have HE : Hid (getR l (i : Int) = (r.s, 0)) := by show _ = _; unfold getR; rw [if_pos hh, Int.toNat_natCast, List.getD_eq_getElem?_getD, hr1]; rfl
    obtain ⟨g, rfl, hg, c0, c1⟩ := hr i r hr1
    clear hr1 hr
    go_enter Try.func15, Try.ntmps15
    go_wp2_with fail
    refine (rp_has i HS.out hk).mono ?_
    rintro e w2 ⟨rfl, rfl⟩
    rw [hh]
    clear hh
    go_wp2_with fail
    go_ret2
    rw [HE.out]
    exact ⟨rfl, rfl⟩

set_option maxRecDepth 100000 in
set_option maxHeartbeats 1000000 in
theorem rp_slots (h : Sep w W (refPg b l :: L)) (hl : l.length ≤ 1000000) :
    Calls Try.prog 14 #[.pointer (some ⟨b, 0, none⟩)] W fun e W' => ∃ p q, e = .returned (.slice p (slotsL l).length q) ∧ Sep w W' (rowRes 3 1 (.slice p (slotsL l).length q) (slotsL l).length (natCells (slotsL l)) :: refPg b l :: L) := by
  obtain ⟨ii, II⟩ := info_of Try.infoIntP
  have HS := Lib.hid (h.row_nil 3 1); clear h
  go_enter Try.func14, Try.ntmps14
  go_wp2_with fail
  go_loopw [3, 4] (fun s3 s4 wr => ∃ (i : Nat) (done : List Nat) (a : Option Addr) (q : Nat), i ≤ l.length ∧ s4 = .int .i64 i ∧ s3 = .slice a done.length q ∧ done.length ≤ i ∧ done ++ slotsFrom i (l.drop i) = slotsL l ∧ Sep w wr (rowRes 3 1 (.slice a done.length q) done.length (natCells done) :: refPg b l :: L)) (fun _ s4 _ => l.length - (intOf s4).toNat)
  case atStart => exact ⟨0, [], none, 0, Nat.zero_le _, rfl, rfl, Nat.zero_le _, rfl, HS.out⟩
  case round =>
    obtain ⟨i, done, a, q, hi, rfl, rfl, hdl, hd, hs1⟩ := hrel
    have HT := Lib.hid hs1; clear hs1 HS
    obtain ⟨p, pq, c, hr, _, _⟩ := pg_at HT.out.up1
    have HR := Lib.hid hr; clear hr
    by_cases hlt : i < l.length
    · obtain ⟨r, hx⟩ : ∃ r, l[i]? = some r := ⟨_, List.getElem?_eq_getElem hlt⟩
      obtain ⟨g, rfl, hg, c0, c1⟩ := HR.out i r hx
      rw [drop_cons hx] at hd
      clear hx
      obtain ⟨rs, rt⟩ := r
      cases rt
      · simp only [slotsFrom, Bool.false_eq_true, if_false] at hd
        have HD := Lib.hid hd; clear hd
        go_wp2_with fail
        go_roundw
        case rel => exact ⟨i + 1, done, a, q, by omega, by go_num, rfl, by omega, HD.out, HT.out⟩
        case measure => simp [intOf]; omega
      · simp only [slotsFrom, if_true] at hd
        have HD : Hid ((done ++ [i]) ++ slotsFrom (i + 1) (l.drop (i + 1)) = slotsL l) := by
          show _ = _
          rw [← hd]; simp
        clear hd
        go_wp2_with (at_builtin; go_must (refine wpList_append_sep (e := 3) (w := w) (l := refPg b l :: L) rfl (.tmp 22) (.tmp 24) 35 rfl ii _ 1 8 Try.underlying35 II.out rfl (by decide) _ done.length (natCells done) rfl rfl (by simp) rfl ?one HT.out (by unfold maxLen; omega) (by omega) ?_))
        case one => simp [Value.oneCell']
        intro p' q' w' hs'
        have HS' : Hid (Sep w w' (rowRes 3 1 (.slice p' (done ++ [i]).length q') (done ++ [i]).length (natCells (done ++ [i])) :: refPg b l :: L)) := by
          have e : natCells (done ++ [i]) = natCells done ++ [.int .i64 (i : Int)] := by simp [natCells]
          show Sep _ _ _
          rw [e, List.length_append]
          exact hs'
        clear hs'
        go_wp2_with fail
        go_roundw
        case rel => exact ⟨i + 1, done ++ [i], p', q', by omega, by go_num, by simp, by simp; omega, HD.out, HS'.out⟩
        case measure => simp [intOf]; omega
    · rw [List.drop_eq_nil_of_le (by omega)] at hd
      have hd' : slotsL l = done := by rw [← hd]; simp [slotsFrom]
      have HD := Lib.hid hd'; clear hd hd'
      go_wp2_with fail
      go_ret
      rw [HD.out]
      exact ⟨a, q, rfl, HT.out⟩

set_option maxHeartbeats 1000000 in
theorem rp_free (h : Sep w W (refPg b l :: L)) (hk : took l ≤ 1000000) :
    Calls Try.prog 38 #[.pointer (some ⟨b, 0, none⟩)] W fun e W' => e = .returned (.int .i64 (freeL l)) ∧ Sep w W' (refPg b l :: L) := by
  have htk : took l = 4 + 4 * l.length + tookOf l := rfl
  have hlow := lowest_le l
  have HS := Lib.hid h; clear h
  obtain ⟨p, q, c, _, _, _⟩ := pg_at HS.out
  have c' : W.drew.cell? ⟨b, 0, none⟩ = some (.slice p l.length q) := c
  by_cases hq : lowest l = l.length
  · have hq' : (lowest l : Int) = l.length := by omega
    have HQ := Lib.hid hq; clear hq
    go_enter Try.func38, Try.ntmps38
    go_wp2_with fail
    refine (rp_size HS.out (by omega)).mono ?_
    rintro e w2 ⟨rfl, rfl⟩
    go_wp2_with fail
    go_quiet ((go_at_call 44; refine Calls.quiet_of_same ((rp_first (l := l) (HS.out.only (Only.drewN [] _ _)) (by omega)).mono fun e w' h => ⟨h.1, h.2.symm⟩)))
    go_wp2_with fail
    go_ret
    exact ⟨by rw [freeL, if_pos HQ.out]; exact congrArg (fun x => Ending.returned (Value.int .i64 x)) (by omega), HS.out.only (Only.drewN [] _ _)⟩
  · have hq' : ¬ (lowest l : Int) = l.length := by omega
    have HQ := Lib.hid hq; clear hq
    go_enter Try.func38, Try.ntmps38
    go_wp2_with fail
    refine (rp_size HS.out (by omega)).mono ?_
    rintro e w2 ⟨rfl, rfl⟩
    go_wp2_with fail
    go_quiet ((go_at_call 44; refine Calls.quiet_of_same ((rp_first (l := l) (HS.out.only (Only.drewN [] _ _)) (by omega)).mono fun e w' h => ⟨h.1, h.2.symm⟩)))
    go_wp2_with fail
    go_ret
    exact ⟨by rw [freeL, if_neg HQ.out]; exact congrArg (fun x => Ending.returned (Value.int .i64 x)) (by omega), HS.out.only (Only.drewN [] _ _)⟩

end
end Go.Proofs.Ytbikgahobkbpaaa
