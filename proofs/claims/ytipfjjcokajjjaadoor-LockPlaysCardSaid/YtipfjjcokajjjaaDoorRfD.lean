/-
  What is proved here: what the document's Take does to memory: a thing's holders or queue set anew, a new thing; and where it stands.
  No condition: each lemma names its own.
-/
import Derived.Test.YtipfjjcokajjjaaDoorRfC
import Derived.Test.YtipfjjcokajjjaaDoorLast
set_option linter.unusedVariables false
set_option linter.unusedSimpArgs false
namespace Go.Proofs.YtipfjjcokajjjaaDoor
open Go.RowKit

theorem tCells_mid (ta tb : RTP) (y : Th × Value × Value) : tCells (ta ++ y :: tb) = tCells ta ++ .string y.1.name :: y.2.1 :: y.2.2 :: tCells tb := by rw [tCells_app, tCells_cons]
theorem tCells_set1 (ta tb : RTP) (x x' : Th) (vh vq v : Value) (hn : x'.name = x.name) : (tCells (ta ++ (x, vh, vq) :: tb)).set (ta.length * 3 + 1) v = tCells (ta ++ (x', v, vq) :: tb) := by
  rw [tCells_mid, tCells_mid, List.set_append, if_neg (by rw [tCells_len]; omega), tCells_len, Nat.add_sub_cancel_left]
  simp only [List.set_cons_succ, List.set_cons_zero, hn]
theorem tCells_set2 (ta tb : RTP) (x x' : Th) (vh vq v : Value) (hn : x'.name = x.name) : (tCells (ta ++ (x, vh, vq) :: tb)).set (ta.length * 3 + 2) v = tCells (ta ++ (x', vh, v) :: tb) := by
  rw [tCells_mid, tCells_mid, List.set_append, if_neg (by rw [tCells_len]; omega), tCells_len, Nat.add_sub_cancel_left]
  simp only [List.set_cons_succ, List.set_cons_zero, hn]

theorem ref_setHas {w W : World} {b g N q m : Nat} {ta tb : RTP} {x : Th} {vh vq v : Value} {l' : HM} {L : List Res} (hs : Sep w W (rowRes 76 2 v m (wCells l') :: openR b (some ⟨g, 0, none⟩) N q (ta ++ (x, vh, vq) :: tb) L)) (hm : m = l'.length) {k : Nat} (hk : k = ta.length) :
    Sep w (W.setCell ⟨g, k * 3 + 1, none⟩ v) (openR b (some ⟨g, 0, none⟩) N q (ta ++ (⟨x.name, l', x.q⟩, v, vq) :: tb) L) := by
  subst hk
  have h1 := (Sep.up2 hs).rowStore (ta.length * 3 + 1) v
  rw [tCells_set1 ta tb x ⟨x.name, l', x.q⟩ vh vq v rfl] at h1
  have h2 := (h1.up3.up2).heldsJoin hm
  have h3 := h2.heldsSub (vs' := tHelds (ta ++ (⟨x.name, l', x.q⟩, v, vq) :: tb)) (by
    intro y hy
    simp only [tHelds, List.flatMap_append, List.flatMap_cons, List.mem_append, List.mem_cons, List.not_mem_nil, or_false] at hy ⊢
    rcases hy with a | (a | a) | a
    · exact .inr (.inl a)
    · exact .inl a
    · exact .inr (.inr (.inl (.inr a)))
    · exact .inr (.inr (.inr a)))
  exact h3.up2.perm (List.Perm.cons _ (.swap _ _ _))
theorem ref_setQ {w W : World} {b g N q m : Nat} {ta tb : RTP} {x : Th} {vh vq v : Value} {l' : HM} {L : List Res} (hs : Sep w W (rowRes 76 2 v m (wCells l') :: openR b (some ⟨g, 0, none⟩) N q (ta ++ (x, vh, vq) :: tb) L)) (hm : m = l'.length) {k : Nat} (hk : k = ta.length) :
    Sep w (W.setCell ⟨g, k * 3 + 2, none⟩ v) (openR b (some ⟨g, 0, none⟩) N q (ta ++ (⟨x.name, x.has, l'⟩, vh, v) :: tb) L) := by
  subst hk
  have h1 := (Sep.up2 hs).rowStore (ta.length * 3 + 2) v
  rw [tCells_set2 ta tb x ⟨x.name, x.has, l'⟩ vh vq v rfl] at h1
  have h2 := (h1.up3.up2).heldsJoin hm
  have h3 := h2.heldsSub (vs' := tHelds (ta ++ (⟨x.name, x.has, l'⟩, vh, v) :: tb)) (by
    intro y hy
    simp only [tHelds, List.flatMap_append, List.flatMap_cons, List.mem_append, List.mem_cons, List.not_mem_nil, or_false] at hy ⊢
    rcases hy with a | (a | a) | a
    · exact .inr (.inl a)
    · exact .inr (.inr (.inl (.inl a)))
    · exact .inl a
    · exact .inr (.inr (.inr a)))
  exact h3.up2.perm (List.Perm.cons _ (.swap _ _ _))

theorem Sep.heldsMore {w W : World} {L : List Res} {vs : List (Value × HM)} (h : Sep w W (heldsRes vs :: L)) : Sep w W (heldsRes ((.slice none 0 0, []) :: vs) :: L) := by
  refine h.turn ?_
  rintro F ⟨h1, h2⟩
  refine ⟨F, ⟨h1, fun x hx' => ?_⟩, Only.refl _ _, Within.refl _ _⟩
  rcases List.mem_cons.1 hx' with rfl | hx'
  · exact .inl ⟨rfl, rfl⟩
  · exact h2 x hx'
theorem ref_new {w W : World} {b N q m : Nat} {p : Option Addr} {ta tb : RTP} {n : ByteArray} {v : Value} {xs : List Value} {L : List Res} {p6 : Option Addr} {q6 : Nat} (hs : Sep w W (rowRes 71 3 (.slice p6 m q6) m xs :: openR b p N q (ta ++ tb) L)) (hx : xs = tCells (ta ++ (⟨n, [], []⟩, .slice none 0 0, .slice none 0 0) :: tb)) :
    Sep w (W.setCell ⟨b, 0, none⟩ (.slice p6 m q6)) (openR b p6 m q6 (ta ++ (⟨n, [], []⟩, .slice none 0 0, .slice none 0 0) :: tb) L) := by
  subst hx
  have h1 := (Sep.up1 hs).store 0 (.slice p6 m q6)
  simp only [List.setIfInBounds_toArray, List.set_cons_succ, List.set_cons_zero] at h1
  have h2 := (h1.up2.tail).up2.heldsMore
  have h3 := h2.heldsSub (vs' := tHelds (ta ++ (⟨n, [], []⟩, .slice none 0 0, .slice none 0 0) :: tb)) (by
    intro y hy
    simp only [tHelds, List.flatMap_append, List.flatMap_cons, List.mem_append, List.mem_cons, List.not_mem_nil, or_false] at hy ⊢
    rcases hy with a | (a | a) | a
    · exact .inr (.inl a)
    · exact .inl a
    · exact .inl a
    · exact .inr (.inr a))
  exact h3.dn2

theorem at_len {t A B : Tab} (h : t = A ++ B) : t[A.length]? = B[0]? := by
  subst h
  rw [List.getElem?_append_right (Nat.le_refl _), Nat.sub_self]
theorem get_lo {t : Tab} (hg : Good t) {n : ByteArray} {x : Th} (h : getT t n = some x) : t[(lo t n).length]? = some x := by
  obtain ⟨_, _, h3⟩ := getT_some hg h
  rw [at_len h3]
  rfl
theorem lo_at {t : Tab} (hg : Good t) (n : ByteArray) {j : Nat} (hj : j < (lo t n).length) : ∃ y, t[j]? = some y ∧ ltB y.name n := by
  have h : ∃ B, t = lo t n ++ B := by
    rcases split_sorted hg.sorted n with ⟨x, _, _, _, h⟩ | ⟨_, _, h⟩
    · exact ⟨_, h⟩
    · exact ⟨_, h⟩
  obtain ⟨B, h⟩ := h
  refine ⟨(lo t n)[j], ?_, ?_⟩
  · conv => lhs; rw [h]
    rw [List.getElem?_append_left hj, List.getElem?_eq_getElem hj]
  · have := List.mem_filter.1 (List.getElem_mem hj)
    simpa using this.2
theorem find_hit {t : Tab} (hg : Good t) {n : ByteArray} {x : Th} (h : getT t n = some x) : IsFind t n ((lo t n).length : Nat) := by
  refine .inl ⟨_, x, rfl, get_lo hg h, (getT_some hg h).1, fun j hj y hy => ?_⟩
  obtain ⟨z, h1, h2⟩ := lo_at hg n hj
  rw [h1] at hy
  cases hy
  exact ltB_ne h2
theorem find_miss {t : Tab} (hg : Good t) {n : ByteArray} (h : getT t n = none) : IsFind t n (-1) := .inr ⟨rfl, (getT_none hg h).1⟩
theorem hi_at {t : Tab} (hg : Good t) {n : ByteArray} (h : getT t n = none) {y : Th} (hy : t[(lo t n).length]? = some y) : ltB n y.name := by
  obtain ⟨_, h2⟩ := getT_none hg h
  rw [at_len h2] at hy
  have := List.mem_filter.1 (List.mem_of_getElem? hy)
  simpa using this.2
theorem lo_le (t : Tab) (n : ByteArray) : (lo t n).length ≤ t.length := List.length_filter_le _ _

/-- The table's things, split where one stands. -/
theorem tv_split {tv : RTP} {t A B : Tab} (ht : tv.map Prod.fst = t) (h : t = A ++ B) : tv = tv.take A.length ++ tv.drop A.length ∧ (tv.take A.length).map Prod.fst = A ∧ (tv.drop A.length).map Prod.fst = B := by
  refine ⟨(List.take_append_drop _ _).symm, ?_, ?_⟩
  · rw [List.map_take, ht, h, List.take_left]
  · rw [List.map_drop, ht, h, List.drop_left]
theorem tv_hit {tv : RTP} {t A B : Tab} {x : Th} (ht : tv.map Prod.fst = t) (h : t = A ++ x :: B) : ∃ ta vh vq tb, tv = ta ++ (x, vh, vq) :: tb ∧ ta.map Prod.fst = A ∧ tb.map Prod.fst = B := by
  subst ht
  obtain ⟨ta, tc, h1, h2, h3⟩ := List.map_eq_append_iff.1 h
  obtain ⟨y, tb, h4, h5, h6⟩ := List.map_eq_cons_iff.1 h3
  subst h1 h4 h2 h6
  obtain ⟨y1, y2, y3⟩ := y
  simp only at h5
  subst h5
  exact ⟨ta, y2, y3, tb, rfl, rfl, rfl⟩

end Go.Proofs.YtipfjjcokajjjaaDoor
