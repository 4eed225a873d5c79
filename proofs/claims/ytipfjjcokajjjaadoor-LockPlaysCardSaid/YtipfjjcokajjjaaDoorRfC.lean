/-
  What is proved here: the document's find, Mode, Waits, Things.
  No condition: each lemma names its own.
-/
import Derived.Test.YtipfjjcokajjjaaDoorRfB
set_option linter.unusedVariables false
set_option linter.unusedSimpArgs false
namespace Go.Proofs.YtipfjjcokajjjaaDoor
open Go.RowKit

theorem waits_hit {t : Tab} {h : Int} {k : Nat} {x : Th} (hk : t[k]? = some x) (hp : 0 < modeL x.q h) (hb : ∀ j, j < k → ∀ y, t[j]? = some y → ¬ 0 < modeL y.q h) : waitsM t h = some x.name := by
  unfold waitsM
  obtain ⟨hk1, hk2⟩ := List.getElem?_eq_some_iff.1 hk
  have : t.find? (fun x => decide (0 < modeL x.q h)) = some x := by
    rw [List.find?_eq_some_iff_getElem]
    refine ⟨by simpa using hp, k, hk1, hk2, fun j hj => ?_⟩
    have := hb j hj t[j] (List.getElem?_eq_getElem _)
    simpa using this
  rw [this]
  rfl
theorem waits_miss {t : Tab} {h : Int} (hb : ∀ j, j < t.length → ∀ y, t[j]? = some y → ¬ 0 < modeL y.q h) : waitsM t h = none := by
  unfold waitsM
  rw [Option.map_eq_none_iff, List.find?_eq_none]
  intro x hx
  obtain ⟨j, hj⟩ := List.getElem?_of_mem hx
  have := hb j (List.getElem?_eq_some_iff.1 hj).1 x hj
  simpa using this

/-- What find answers. -/
def IsFind (t : Tab) (n : ByteArray) (r : Int) : Prop :=
  (∃ k x, r = (k : Nat) ∧ t[k]? = some x ∧ x.name = n ∧ ∀ j, j < k → ∀ y, t[j]? = some y → y.name ≠ n) ∨ (r = -1 ∧ ∀ x ∈ t, x.name ≠ n)
theorem get_hit {t : Tab} {n : ByteArray} {k : Nat} {x : Th} (hk : t[k]? = some x) (hn : x.name = n) (hb : ∀ j, j < k → ∀ y, t[j]? = some y → y.name ≠ n) : getT t n = some x := by
  unfold getT
  obtain ⟨hk1, hk2⟩ := List.getElem?_eq_some_iff.1 hk
  rw [List.find?_eq_some_iff_getElem]
  refine ⟨by simpa using hn, k, hk1, hk2, fun j hj => ?_⟩
  have := hb j hj t[j] (List.getElem?_eq_getElem _)
  simpa using this
theorem get_miss {t : Tab} {n : ByteArray} (hn : ∀ x ∈ t, x.name ≠ n) : getT t n = none := by
  unfold getT
  rw [List.find?_eq_none]
  intro x hx
  simpa using hn x hx

def openR (b : Nat) (p : Option Addr) (n q : Nat) (tv : RTP) (L : List Res) : List Res :=
  blkRes b (.cells #[.slice p n q] 28 (0, 0)) :: rowRes 71 3 (.slice p n q) n (tCells tv) :: heldsRes (tHelds tv) :: L

theorem ref_open {w W : World} {b : Nat} {t : Tab} {L : List Res} (hs : Sep w W (refRes b t :: L)) : ∃ p q tv, Sep w W (openR b p t.length q tv L) ∧ tv.map Prod.fst = t := by
  obtain ⟨⟨v, tv⟩, hs0, ht⟩ := hs.open
  have ht : tv.map Prod.fst = t := ht
  have hl : tv.length = t.length := by rw [← ht, List.length_map]
  have hs1 : Sep w W (blkRes b (.cells #[v] 28 (0, 0)) :: rowRes 71 3 v tv.length (tCells tv) :: heldsRes (tHelds tv) :: L) := hs0
  obtain ⟨p, q, rfl⟩ := ownsRow_slice hs1.up1.row
  rw [hl] at hs1
  exact ⟨p, q, tv, hs1, ht⟩
theorem ref_shut {w W : World} {b : Nat} {t : Tab} {L : List Res} {p : Option Addr} {n q : Nat} {tv : RTP} (hs : Sep w W (openR b p n q tv L)) (hn : n = t.length) (ht : tv.map Prod.fst = t) : Sep w W (refRes b t :: L) := by
  have hl : tv.length = t.length := by rw [← ht, List.length_map]
  subst hn
  refine Sep.close (.slice p t.length q, tv) ?_ ht
  have : Sep w W (blkRes b (.cells #[.slice p t.length q] 28 (0, 0)) :: rowRes 71 3 (.slice p t.length q) tv.length (tCells tv) :: heldsRes (tHelds tv) :: L) := by rw [hl]; exact hs
  exact this
theorem ref_cells {w W : World} {b : Nat} {L : List Res} {p : Option Addr} {n q : Nat} {tv : RTP} (hs : Sep w W (openR b p n q tv L)) {k : Nat} {x : Th} {vh vq : Value} (hk : tv[k]? = some (x, vh, vq)) :
    ∃ g, p = some ⟨g, 0, none⟩ ∧ (W.cell? ⟨g, k * 3, none⟩ = some (.string x.name) ∧ W.cell? ⟨g, k * 3 + 1, none⟩ = some vh ∧ W.cell? ⟨g, k * 3 + 2, none⟩ = some vq) ∧ (W.frozen? ⟨g, k * 3, none⟩ = false ∧ W.frozen? ⟨g, k * 3 + 1, none⟩ = false ∧ W.frozen? ⟨g, k * 3 + 2, none⟩ = false) := by
  obtain ⟨h1, h2, h3⟩ := tCells_at hk
  have hr := hs.up1.row
  obtain ⟨g, rfl, a1, b1⟩ := ownsRow_cell_of hr h1
  obtain ⟨g', e2, a2, b2⟩ := ownsRow_cell_of hr h2
  obtain ⟨g3, e3, a3, b3⟩ := ownsRow_cell_of hr h3
  cases e2
  cases e3
  exact ⟨g, rfl, ⟨a1, a2, a3⟩, b1, b2, b3⟩
theorem ref_tab {w W : World} {b : Nat} {L : List Res} {p : Option Addr} {n q : Nat} {tv : RTP} (hs : Sep w W (openR b p n q tv L)) : W.cell? ⟨b, 0, none⟩ = some (.slice p n q) ∧ W.frozen? ⟨b, 0, none⟩ = false :=
  ⟨cell_of_block hs.blk 0 rfl, free_of_block hs.blk 0⟩
theorem ref_held {w W : World} {b : Nat} {L : List Res} {p : Option Addr} {n q : Nat} {tv : RTP} (hs : Sep w W (openR b p n q tv L)) {k : Nat} {x : Th} {vh vq : Value} (hk : tv[k]? = some (x, vh, vq)) : HeldAt W vh x.has ∧ HeldAt W vq x.q := by
  obtain ⟨h1, h2⟩ := tHelds_at hk
  exact ⟨(hs.up2).helds h1, (hs.up2).helds h2⟩

theorem bytes_ne {a b : ByteArray} (h : a ≠ b) : (a.toList == b.toList) = false := by
  rw [beq_eq_false_iff_ne]
  exact fun e => h (bytes_inj e)

set_option maxRecDepth 100000 in
theorem rfind_any {w W : World} {L : List Res} {b : Nat} {t : Tab} (hl : t.length ≤ 256) (n : ByteArray) (hs : Sep w W (refRes b t :: L)) :
    Calls Tryd.prog 32 #[.pointer (some ⟨b, 0, none⟩), .string n] W fun e W' => (∃ r, e = .returned (.int .i64 r) ∧ IsFind t n r) ∧ W = W' := by
  obtain ⟨p, q, tv, hs, ht⟩ := ref_open hs
  have HS := Lib.hid hs
  have b0 := (ref_tab hs).1
  obtain ⟨N, hN⟩ : ∃ N, N = t.length := ⟨_, rfl⟩
  have HN := Lib.hid hN
  have HT := Lib.hid ht
  rw [← hN] at hl b0 HS
  clear hs ht hN
  go_enter Tryd.func32, Tryd.ntmps32
  go_wp2_with fail
  go_loopg [5] N (fun gg s5 wr => ∃ i : Nat, i ≤ N ∧ N - i ≤ gg ∧ s5 = .int .i64 i ∧ W = wr ∧ Aside (∀ j, j < i → ∀ y, t[j]? = some y → y.name ≠ n))
  case atStart => exact ⟨0, Nat.zero_le _, by omega, rfl, rfl, (fun j hj => absurd hj (Nat.not_lt_zero _) : ∀ j, j < 0 → ∀ y, t[j]? = some y → y.name ≠ n)⟩
  case round =>
    obtain ⟨i, hi, hgg, rfl, rfl, HM⟩ := hrel
    by_cases hlt : i < N
    · have hltz : (i : Int) < (N : Int) := by omega
      obtain ⟨x, hx⟩ : ∃ x, t[i]? = some x := ⟨t[i]'(by rw [← HN.out]; exact hlt), List.getElem?_eq_getElem _⟩
      obtain ⟨vh, vq, hy⟩ := tv_at HT.out hx
      obtain ⟨g, rfl, ⟨c0, _, _⟩, _⟩ := ref_cells HS.out hy
      have HX := Lib.hid hx
      clear hx hy
      by_cases he : x.name = n
      · subst he
        go_wp2_with fail
        go_ret
        exact ⟨⟨_, rfl, .inl ⟨i, x, rfl, HX.out, rfl, HM.out⟩⟩, rfl⟩
      · have he' := bytes_ne he
        have HE := Lib.hid he
        clear he
        go_wp2_with fail
        go_roundg (N - (i + 1))
        case measure => omega
        case rel =>
          refine ⟨i + 1, by omega, by omega, by go_num, rfl, (fun j hj y hy => ?_ : ∀ j, j < i + 1 → ∀ y, t[j]? = some y → y.name ≠ n)⟩
          by_cases e : j = i
          · subst e
            rw [HX.out] at hy
            cases hy
            exact HE.out
          · exact HM.out j (by omega) y hy
    · have hltz : ¬ (i : Int) < (N : Int) := by omega
      go_wp2_with fail
      go_ret
      refine ⟨⟨_, rfl, .inr ⟨rfl, fun x hx => ?_⟩⟩, rfl⟩
      obtain ⟨j, hj⟩ := List.getElem?_of_mem hx
      exact HM.out j (by have := (List.getElem?_eq_some_iff.1 hj).1; have := HN.out; omega) x hj

theorem IsFind.get {t : Tab} {n : ByteArray} {r : Int} (h : IsFind t n r) : (∃ k x, r = (k : Nat) ∧ t[k]? = some x ∧ x.name = n ∧ getT t n = some x) ∨ (r = -1 ∧ getT t n = none ∧ ∀ x ∈ t, x.name ≠ n) := by
  rcases h with ⟨k, x, a, b, c, d⟩ | ⟨a, b⟩
  · exact .inl ⟨k, x, a, b, c, get_hit b c d⟩
  · exact .inr ⟨a, get_miss b, b⟩

theorem find_uniq {t : Tab} {n : ByteArray} {r r' : Int} (h : IsFind t n r) (h' : IsFind t n r') : r = r' := by
  rcases h with ⟨k, x, rfl, b, c, d⟩ | ⟨rfl, b⟩ <;> rcases h' with ⟨k', x', rfl, b', c', d'⟩ | ⟨rfl, b'⟩
  · rcases Nat.lt_trichotomy k k' with q | q | q
    · exact absurd c (d' k q x b)
    · rw [q]
    · exact absurd c' (d k' q x' b')
  · exact absurd c (b' x (List.mem_of_getElem? b))
  · exact absurd c' (b x' (List.mem_of_getElem? b'))
  · rfl
theorem find_is (t : Tab) (n : ByteArray) : ∃ r, IsFind t n r := by
  cases e : getT t n with
  | none =>
    refine ⟨-1, .inr ⟨rfl, ?_⟩⟩
    unfold getT at e
    rw [List.find?_eq_none] at e
    intro x hx
    have := e x hx
    simpa using this
  | some x =>
    unfold getT at e
    rw [List.find?_eq_some_iff_getElem] at e
    obtain ⟨h1, k, h2, h3, h4⟩ := e
    refine ⟨k, .inl ⟨k, x, rfl, by rw [List.getElem?_eq_getElem h2, h3], by simpa using h1, fun j hj y hy => ?_⟩⟩
    have := h4 j hj
    obtain ⟨_, rfl⟩ := List.getElem?_eq_some_iff.1 hy
    simpa using this
theorem rfind_at {w W : World} {L : List Res} {b : Nat} {t : Tab} (hl : t.length ≤ 256) {n : ByteArray} {r : Int} (hr : IsFind t n r) (hs : Sep w W (refRes b t :: L)) :
    Calls Tryd.prog 32 #[.pointer (some ⟨b, 0, none⟩), .string n] W fun e W' => e = .returned (.int .i64 r) ∧ W = W' :=
  (rfind_any hl n hs).mono (by rintro e W' ⟨⟨r', rfl, h'⟩, rfl⟩; rw [find_uniq hr h']; exact ⟨rfl, rfl⟩)

set_option maxRecDepth 100000 in
theorem rMode_any {w W : World} {L : List Res} {b : Nat} {t : Tab} (hg : Good t) (h : Int) (n : ByteArray) (hs : Sep w W (refRes b t :: L)) :
    Calls Tryd.prog 21 #[.pointer (some ⟨b, 0, none⟩), .int .i64 h, .string n] W fun e W' => e = .returned (.int .i64 (modeM t h n)) ∧ W = W' := by
  obtain ⟨r, hr⟩ := find_is t n
  have HF := Lib.hid (rfind_at hg.len hr hs)
  obtain ⟨p, q, tv, hs, ht⟩ := ref_open hs
  have HS := Lib.hid hs
  have b0 := (ref_tab hs).1
  have HE := Lib.hid hg.each
  have hl := hg.len
  rcases hr.get with ⟨k, x, rfl, hx, hn, hge⟩ | ⟨rfl, hge, _⟩
  · obtain ⟨vh, vq, hy⟩ := tv_at ht hx
    obtain ⟨g, rfl, ⟨_, c1, _⟩, _⟩ := ref_cells hs hy
    have hk := (List.getElem?_eq_some_iff.1 hx).1
    have HC := Lib.hid (rmode_any W (ref_held hs hy).1 (by have := modes_len1 (HE.out x (List.mem_of_getElem? hx)).has; omega) h)
    have HG := Lib.hid hge
    clear hx hy hge hn hs ht hg hr
    go_enter Tryd.func21, Tryd.ntmps21
    go_wp2_with (first | (go_at_call 32; refine HF.out.mono ?_; rintro e w2 ⟨rfl, rfl⟩) | (go_at_call 35; refine HC.out.mono ?_; rintro e w2 ⟨rfl, rfl⟩))
    go_ret
    exact ⟨by unfold modeM; rw [HG.out]; rfl, rfl⟩
  · have HG := Lib.hid hge
    clear hge hs ht hg hr
    go_enter Tryd.func21, Tryd.ntmps21
    go_wp2_with (go_at_call 32; refine HF.out.mono ?_; rintro e w2 ⟨rfl, rfl⟩)
    go_ret
    exact ⟨by unfold modeM; rw [HG.out]; rfl, rfl⟩

set_option maxRecDepth 100000 in
theorem rWaits_any {w W : World} {L : List Res} {b : Nat} {t : Tab} (hg : Good t) (h : Int) (hs : Sep w W (refRes b t :: L)) :
    Calls Tryd.prog 19 #[.pointer (some ⟨b, 0, none⟩), .int .i64 h] W fun e W' => e = .returned (.tuple #[.string ((waitsM t h).getD ⟨#[]⟩), .bool (waitsM t h).isSome]) ∧ W = W' := by
  obtain ⟨p, q, tv, hs, ht⟩ := ref_open hs
  have HS := Lib.hid hs
  have b0 := (ref_tab hs).1
  obtain ⟨N, hN⟩ : ∃ N, N = t.length := ⟨_, rfl⟩
  have HN := Lib.hid hN
  have HT := Lib.hid ht
  have HE := Lib.hid hg.each
  have hl := hg.len
  rw [← hN] at hl b0 HS
  clear hs ht hN hg
  go_enter Tryd.func19, Tryd.ntmps19
  go_wp2_with fail
  go_loopg [6] N (fun gg s6 wr => ∃ i : Nat, i ≤ N ∧ N - i ≤ gg ∧ s6 = .int .i64 i ∧ W = wr ∧ Aside (∀ j, j < i → ∀ y, t[j]? = some y → modeL y.q h ≤ 0))
  case atStart => exact ⟨0, Nat.zero_le _, by omega, rfl, rfl, (fun j hj => absurd hj (Nat.not_lt_zero _) : ∀ j, j < 0 → ∀ y, t[j]? = some y → modeL y.q h ≤ 0)⟩
  case round =>
    obtain ⟨i, hi, hgg, rfl, rfl, HM⟩ := hrel
    by_cases hlt : i < N
    · have hltz : (i : Int) < (N : Int) := by omega
      obtain ⟨x, hx⟩ : ∃ x, t[i]? = some x := ⟨t[i]'(by rw [← HN.out]; exact hlt), List.getElem?_eq_getElem _⟩
      obtain ⟨vh, vq, hy⟩ := tv_at HT.out hx
      obtain ⟨g, rfl, ⟨c0, _, c2⟩, _⟩ := ref_cells HS.out hy
      have HX := Lib.hid hx
      have HC := Lib.hid (rmode_any W (ref_held HS.out hy).2 (by have := modes_len1 (HE.out x (List.mem_of_getElem? hx)).q; omega) h)
      clear hx hy
      obtain ⟨m, hm⟩ : ∃ m, m = modeL x.q h := ⟨_, rfl⟩
      rw [← hm] at HC
      have HMD := Lib.hid hm
      clear hm
      by_cases he : 0 < m
      · go_wp2_with (go_at_call 35; refine HC.out.mono ?_; rintro e w2 ⟨rfl, rfl⟩)
        go_ret2
        rw [waits_hit HX.out (by rw [← HMD.out]; exact he) (fun j hj y hy => by have := HM.out j hj y hy; omega)]
        exact ⟨rfl, rfl⟩
      · go_wp2_with (go_at_call 35; refine HC.out.mono ?_; rintro e w2 ⟨rfl, rfl⟩)
        go_roundg (N - (i + 1))
        case measure => omega
        case rel =>
          refine ⟨i + 1, by omega, by omega, by go_num, rfl, (fun j hj y hy => ?_ : ∀ j, j < i + 1 → ∀ y, t[j]? = some y → modeL y.q h ≤ 0)⟩
          by_cases e : j = i
          · subst e
            rw [HX.out] at hy
            cases hy
            rw [← HMD.out]
            omega
          · exact HM.out j (by omega) y hy
    · have hltz : ¬ (i : Int) < (N : Int) := by omega
      go_wp2_with fail
      go_ret2
      rw [waits_miss (fun j hj y hy => by have := HM.out j (by have := HN.out; omega) y hy; omega)]
      exact ⟨rfl, rfl⟩

def namesT (t : Tab) : List ByteArray := t.map (·.name)
theorem Tryd.infoStr : (Tryd.prog.info? 9).map (fun i => (i.zero, i.size, i.bytes)) = some (some (.string ⟨#[]⟩), 1, 16) := by kernel_rfl

set_option maxRecDepth 100000 in
set_option maxHeartbeats 1000000 in
theorem rThings_any {w W : World} {L : List Res} {b : Nat} {t : Tab} (hl : t.length ≤ 256) (hs : Sep w W (refRes b t :: L)) :
    Calls Tryd.prog 26 #[.pointer (some ⟨b, 0, none⟩)] W fun e W' => ∃ p q, e = .returned (.slice p t.length q) ∧ Sep w W' (rowRes 9 1 (.slice p t.length q) t.length (strCells (namesT t)) :: refRes b t :: L) := by
  obtain ⟨ii, II⟩ := info_of Tryd.infoStr
  obtain ⟨p, q, tv, hs, ht⟩ := ref_open hs
  have HS := Lib.hid (hs.row_nil 9 1)
  obtain ⟨N, hN⟩ : ∃ N, N = t.length := ⟨_, rfl⟩
  have HN := Lib.hid hN
  have HT := Lib.hid ht
  rw [← hN] at hl HS ⊢
  clear hs ht hN
  go_enter Tryd.func26, Tryd.ntmps26
  go_wp2_with fail
  go_loopg [4, 3] N (fun gg s4 s3 wr => ∃ (i : Nat) (p3 : Option Addr) (q3 : Nat), i ≤ N ∧ N - i ≤ gg ∧ s4 = .int .i64 i ∧ s3 = .slice p3 i q3 ∧ Aside (Sep w wr (rowRes 9 1 (.slice p3 i q3) i (strCells ((namesT t).take i)) :: openR b p N q tv L)))
  case atStart => exact ⟨0, none, 0, Nat.zero_le _, by omega, rfl, rfl, HS.out⟩
  case round =>
    obtain ⟨i, p3, q3, hi, hgg, rfl, rfl, HS2⟩ := hrel
    have hs2 : Sep w wr (rowRes 9 1 (.slice p3 i q3) i (strCells ((namesT t).take i)) :: openR b p N q tv L) := HS2
    have b0 := (ref_tab hs2.tail).1
    clear HS2 HS
    by_cases hlt : i < N
    · have hltz : (i : Int) < (N : Int) := by omega
      obtain ⟨x, hx⟩ : ∃ x, t[i]? = some x := ⟨t[i]'(by rw [← HN.out]; exact hlt), List.getElem?_eq_getElem _⟩
      obtain ⟨vh, vq, hy⟩ := tv_at HT.out hx
      obtain ⟨g, rfl, ⟨c0, _, _⟩, _⟩ := ref_cells hs2.tail hy
      have htk : strCells ((namesT t).take (i + 1)) = strCells ((namesT t).take i) ++ (#[Value.string x.name] : Array Value).toList := by
        have : (namesT t)[i]? = some x.name := by simp [namesT, hx]
        rw [List.take_add_one, this]
        simp [strCells]
      have HTK := Lib.hid htk
      have HS3 := Lib.hid hs2
      clear hx hy hs2 htk
      go_wp2_with (refine wpList_append_sep (w := w) (cs := #[.string x.name]) (e := 9) (B := wr.heap.size) rfl (.tmp 14) (.tmp 23) 43 rfl ii _ 1 16 Tryd.underlying43 II.out rfl (by decide) _ _ _ rfl rfl rfl rfl (by simp [Value.oneCell']) HS3.out (by unfold maxLen; omega) (by omega) ?_; intro p4 q4 w4 hs4; have HS4 := Lib.hid hs4; clear hs4)
      go_roundg (N - (i + 1))
      case measure => omega
      case rel =>
        refine ⟨i + 1, p4, q4, by omega, by omega, by go_num, rfl, ?_⟩
        show Sep _ _ _
        rw [HTK.out]
        exact HS4.out
    · have hiN : i = N := by omega
      subst hiN
      have hltz : ¬ (i : Int) < (i : Int) := by omega
      have ht : (namesT t).take i = namesT t := List.take_of_length_le (by rw [HN.out]; simp [namesT])
      rw [ht] at hs2
      have HS3 := Lib.hid hs2
      clear hs2
      go_wp2_with fail
      go_ret
      exact ⟨p3, q3, rfl, (ref_shut (HS3.out.perm (List.perm_middle (l₁ := [_, _, _]) (a := rowRes 9 1 (.slice p3 i q3) i (strCells (namesT t)))).symm) HN.out HT.out).up1⟩

end Go.Proofs.YtipfjjcokajjjaaDoor
