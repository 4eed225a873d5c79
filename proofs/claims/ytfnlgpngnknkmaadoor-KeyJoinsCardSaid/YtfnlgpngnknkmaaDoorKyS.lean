/-
  What is proved here: 'key.Split' tells a key's values ('splitS').
  Condition: texts are no longer than a million bytes.
-/
import Derived.Test.YtfnlgpngnknkmaaDoorKyN
namespace Go.Proofs.YtfnlgpngnknkmaaDoor
open Go.RowKit Go.Proofs.YtfnlgpngnknkmaaDoor.F Go.Proofs.YtfnlgpngnknkmaaDoorW.PrintWords Go.Proofs.YtfnlgpngnknkmaaDoorW.PrintLast
set_option linter.unusedSimpArgs false
set_option linter.unusedVariables false

def valCell (x : S45) : List Value := [.int .i64 x.f0, .int .i64 x.f1, .string x.f2]
def valCells (l : List S45) : List Value := l.flatMap valCell
theorem valCells_append (l l' : List S45) : valCells (l ++ l') = valCells l ++ valCells l' := by simp [valCells]
theorem valCells_length (l : List S45) : (valCells l).length = l.length * 3 := by
  induction l with
  | nil => rfl
  | cons x t ih => simp only [valCells, List.flatMap_cons, List.length_append, List.length_cons] at ih ⊢; rw [ih]; simp [valCell]; omega
theorem valCells_at : ∀ (l : List S45) (i : Nat) (x : S45), l[i]? = some x → (valCells l)[i * 3]? = some (.int .i64 x.f0) ∧ (valCells l)[i * 3 + 1]? = some (.int .i64 x.f1) ∧ (valCells l)[i * 3 + 2]? = some (.string x.f2)
  | [], i, x, h => by simp at h
  | y :: t, 0, x, h => by
    simp at h
    subst h
    exact ⟨rfl, rfl, rfl⟩
  | y :: t, i + 1, x, h => by
    obtain ⟨h0, h1, h2⟩ := valCells_at t i x (by simpa using h)
    have e : valCells (y :: t) = valCell y ++ valCells t := by simp [valCells]
    have hl : (valCell y).length = 3 := rfl
    rw [e]
    refine ⟨?_, ?_, ?_⟩
    · rw [List.getElem?_append_right (by rw [hl]; omega), hl, show (i + 1) * 3 - 3 = i * 3 by omega]; exact h0
    · rw [List.getElem?_append_right (by rw [hl]; omega), hl, show (i + 1) * 3 + 1 - 3 = i * 3 + 1 by omega]; exact h1
    · rw [List.getElem?_append_right (by rw [hl]; omega), hl, show (i + 1) * 3 + 2 - 3 = i * 3 + 2 by omega]; exact h2
theorem valCells_one (l : List S45) : ∀ u ∈ valCells l, u.oneCell' = true := by
  intro u hu
  simp only [valCells, List.mem_flatMap] at hu
  obtain ⟨x, _, hx⟩ := hu
  simp only [valCell, List.mem_cons, List.not_mem_nil, or_false] at hx
  rcases hx with rfl | rfl | rfl <;> rfl

theorem Tryd.infoVal : (Tryd.prog.info? 45).map (fun i => (i.zero, i.size, i.bytes)) = some (some (.agg #[(.int .i64 0), (.int .i64 0), (.string ⟨#[]⟩)]), 3, 32) := by kernel_rfl

theorem splitF_out (f : Nat) (l : List UInt8) (h : l = []) : splitF f l = some [] := by subst h; cases f <;> rfl

/-- What 'Split' hands back. -/
def SplitPost (s : ByteArray) (w : World) (e : Ending) (w' : World) : Prop :=
  ∃ p q, e = .returned (.tuple #[.slice p (splitS s).1.length q, .int .i64 (splitS s).2]) ∧ Sep w w' [rowRes 45 3 (.slice p (splitS s).1.length q) (splitS s).1.length (valCells (splitS s).1)]

set_option maxRecDepth 100000 in
set_option maxHeartbeats 1000000 in
theorem split_any (s : ByteArray) (w : World) (hs : s.size ≤ 1000000) : Calls Tryd.prog 16 #[.string s] w (SplitPost s w) := by
  by_cases hbig : 4096 < s.size
  · have e : splitS s = ([], 2) := by unfold splitS; rw [if_pos hbig]
    have E := Lib.hid e; clear e
    go_enter Tryd.func16, Tryd.ntmps16
    go_wp2_with fail
    go_ret2
    unfold SplitPost
    rw [E.out]
    exact ⟨none, 0, rfl, (Sep.nil w).row_nil _ _⟩
  · have e : splitS s = splitRes [] (splitF s.size s.data.toList) := by unfold splitS; rw [if_neg hbig]
    have E := Lib.hid e; clear e
    obtain ⟨iv, IV⟩ := info_of Tryd.infoVal
    have hsm : s.size ≤ 4096 := by omega
    clear hbig hs
    go_enter Tryd.func16, Tryd.ntmps16
    go_wp2_with fail
    go_loopw [4, 5] (fun s4 s5 wr => ∃ (n f : Nat) (acc : List ValD) (p : Option Addr) (q : Nat), n ≤ s.size ∧ s.size - n ≤ f ∧ acc.length ≤ n ∧ s5 = .int .i64 n ∧ s4 = .slice p acc.length q ∧ Sep w wr [rowRes 45 3 (.slice p acc.length q) acc.length (valCells (acc.map sd))] ∧ splitRes acc (splitF f (s.data.toList.drop n)) = splitS s) (fun _ s5 _ => s.size - (intOf s5).toNat)
    case atStart => exact ⟨0, s.size, [], none, 0, by omega, by omega, by simp, rfl, rfl, (Sep.nil w).row_nil _ _, by rw [E.out]; simp⟩
    case round =>
      clear E
      obtain ⟨n, f, acc, p, q, hn, hf, ha, rfl, rfl, hsep, hres⟩ := hrel
      by_cases hlt : n < s.size
      · obtain ⟨f, rfl⟩ : ∃ m, f = m + 1 := ⟨f - 1, by omega⟩
        obtain ⟨b, hb, _, _⟩ := bt_cons hlt
        rw [splitF_succ, hb] at hres
        simp only at hres
        have hx := rest_of (s := s) n
        have hxs := rest_size (s := s) n
        have hnx := fun W => next_any (s.extract n s.size) W (by omega) (by omega)
        rw [hx, hb] at hnx
        have HX := Lib.hid hx; clear hx
        have HSEP := Lib.hid hsep; clear hsep
        cases hm : nextM (b :: s.data.toList.drop (n + 1)) with
        | none =>
          rw [hm] at hnx hres
          simp only [nextRes, nextV] at hnx
          have HR := Lib.hid hres.symm; clear hres
          clear hm hb hxs
          go_wp2_with fail
          refine (hnx _).mono ?_
          rintro e w1 ⟨rfl, o1⟩
          have O1 := Lib.hid (HSEP.out.only o1); clear o1 hnx
          go_wp2_with fail
          go_ret2
          unfold SplitPost
          rw [HR.out]
          exact ⟨none, 0, rfl, (((O1.out.tail).only (Only.of_below (by repeat (first | exact Below.refl _ _ | refine Below.setCell ?_ (by simp) _ | refine Below.alloc ?_ (by simp) _)))).row_nil _ _)⟩
        | some pr =>
          obtain ⟨v, r⟩ := pr
          rw [hm] at hnx hres
          have hlen := nextM_len hm
          have hdr := nextM_drop hm
          rw [← hb, drop_len] at hlen hdr
          simp only [nextRes, nextV, hxs] at hnx hres
          obtain ⟨m, hm1, hm2⟩ : ∃ m : Nat, 0 < m ∧ m + r.length = s.size - n := ⟨s.size - n - r.length, by omega, by omega⟩
          have e1 : (((s.size - n : Nat) : Int) - (r.length : Int)) = (m : Int) := by omega
          have e2 : r = s.data.toList.drop (n + m) := by
            have : s.size - n - r.length = m := by omega
            rw [← List.drop_drop, ← this]; exact hdr
          have hnm : n + m ≤ s.size := by omega
          rw [e1] at hnx
          rw [splitRes_map, e2] at hres
          have HR := Lib.hid hres; clear hres
          clear hm hb hxs hdr e1 e2 hm2 hlen
          go_wp2_with fail
          refine (hnx _).mono ?_
          rintro e w1 ⟨rfl, o1⟩
          have O1 := Lib.hid (HSEP.out.only o1); clear o1 hnx
          have em : ((m : Int) == 0) = false := by rw [beq_eq_false_iff_ne]; omega
          go_wp2_with (at_builtin; go_must (refine wpList_append_sep (e := 45) (w := w) (l := []) rfl (.tmp 24) (.tmp 26) 22 rfl iv _ 3 32 Tryd.underlying22 IV.out rfl (by decide) _ acc.length (valCells (acc.map sd)) rfl rfl (by simp) rfl ?one (O1.out.forget _) (by unfold maxLen; omega) (by omega) ?_))
          case one => simp [Value.oneCell']
          intro p' q' w' hs'
          have HS' : Hid (Sep w w' [rowRes 45 3 (.slice p' (acc.length + 1) q') (acc.length + 1) (valCells ((acc ++ [v]).map sd))]) := by
            rw [List.map_append, valCells_append]
            exact hs'
          clear hs' O1
          go_wp2_with fail
          go_roundw
          case rel => exact ⟨n + m, f, acc ++ [v], p', q', hnm, by omega, by simp; omega, by go_num, by simp, by simpa using HS'.out, HR.out⟩
          case measure => simp [intOf]; omega
      · have e : s.data.toList.drop n = [] := drop_all (by omega)
        rw [splitF_out _ _ e] at hres
        have HR := Lib.hid hres.symm; clear hres
        have HSEP := Lib.hid hsep; clear hsep
        clear e
        go_wp2_with fail
        go_ret2
        unfold SplitPost
        rw [HR.out]
        simp only [splitRes, List.append_nil, List.length_map]
        exact ⟨p, q, rfl, HSEP.out⟩

end Go.Proofs.YtfnlgpngnknkmaaDoor
