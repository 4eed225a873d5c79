/-
  What is proved here: the plain law of a page's rows: what stays, how many there are; no program in sight.
  Condition: the rows are such as a page may have ('Valid').
-/
import Derived.Test.YtbikgahobkbpaaaSteps06
namespace Go.Proofs.Ytbikgahobkbpaaa

theorem lowest_pos {l : List RowD} {r : RowD} (h : l[0]? = some r) (hr : r.there = true) : 0 < lowest l := by
  cases l with
  | nil => simp at h
  | cons x l =>
    simp at h
    subst h
    simp [lowest, hr]

theorem lowest_free (l : List RowD) : lowest l = l.length ∨ ∃ r, l[lowest l]? = some r ∧ r.there = false := by
  induction l with
  | nil => left; rfl
  | cons x l ih =>
    cases hx : x.there
    · right; exact ⟨x, by simp [lowest, hx], hx⟩
    · simp only [lowest, hx, if_true, List.length_cons, List.getElem?_cons_succ]
      rcases ih with h | h
      · left; omega
      · right; exact h

theorem putL_zero {l : List RowD} {r : RowD} {k : Nat} {s : ByteArray} (h : l[0]? = some r) (hk : 0 < k) : (putL l k s)[0]? = some r := by
  unfold putL
  have h0 : 0 < l.length := (List.getElem?_eq_some_iff.1 h).1
  split
  · rw [List.getElem?_append_left h0]; exact h
  · rw [List.getElem?_set_ne (by omega)]; exact h

theorem takeWhile_true {α : Type} {p : α → Bool} : ∀ {l : List α} {x : α}, x ∈ l.takeWhile p → p x = true
  | [], x, h => by simp at h
  | y :: l, x, h => by
    rw [List.takeWhile_cons] at h
    split at h
    · rename_i hy
      rcases List.mem_cons.1 h with rfl | h
      · exact hy
      · exact takeWhile_true h
    · simp at h

/-- What is cut off is free. -/
theorem trim_split (l : List RowD) : ∃ t, l = trim l ++ t ∧ ∀ r ∈ t, r.there = false := by
  refine ⟨(l.reverse.takeWhile fun r => !r.there).reverse, ?_, ?_⟩
  · unfold trim
    rw [← List.reverse_append, List.takeWhile_append_dropWhile, List.reverse_reverse]
  · intro r hr
    have := takeWhile_true (List.mem_reverse.1 hr)
    simpa using this

theorem trim_keeps {l : List RowD} {k : Nat} {r : RowD} (h : l[k]? = some r) (hr : r.there = true) : (trim l)[k]? = some r := by
  obtain ⟨t, e, ht⟩ := trim_split l
  by_cases hk : k < (trim l).length
  · rw [e, List.getElem?_append_left hk] at h; exact h
  · rw [e, List.getElem?_append_right (by omega)] at h
    have := ht r (List.mem_of_getElem? h)
    rw [hr] at this; cases this

theorem delL_zero {l : List RowD} {r : RowD} {k : Nat} (h : l[0]? = some r) (hr : r.there = true) (hk : 0 < k) : (delL l k)[0]? = some r :=
  trim_keeps (by rw [List.getElem?_set_ne (by omega)]; exact h) hr

/-- How many rows there are. -/
def cnt (l : List RowD) : Nat := l.countP (·.there)

theorem slotsFrom_length (l : List RowD) : ∀ k, (slotsFrom k l).length = cnt l := by
  induction l with
  | nil => intro k; rfl
  | cons x l ih =>
    intro k
    unfold cnt at ih ⊢
    simp only [slotsFrom, List.countP_cons]
    split
    · rename_i h; simp [ih, h]
    · rename_i h; simp [ih, h]

theorem slotsFrom_mem (l : List RowD) : ∀ (k v : Nat), v ∈ slotsFrom k l → ∃ j r, v = k + j ∧ l[j]? = some r ∧ r.there = true := by
  induction l with
  | nil => intro k v h; simp [slotsFrom] at h
  | cons x l ih =>
    intro k v h
    simp only [slotsFrom] at h
    split at h
    · rename_i hx
      rcases List.mem_cons.1 h with h | h
      · exact ⟨0, x, by omega, rfl, hx⟩
      · obtain ⟨j, r, h1, h2, h3⟩ := ih _ _ h
        exact ⟨j + 1, r, by omega, by simpa using h2, h3⟩
    · obtain ⟨j, r, h1, h2, h3⟩ := ih _ _ h
      exact ⟨j + 1, r, by omega, by simpa using h2, h3⟩

theorem slotsL_mem {l : List RowD} {v : Nat} (h : v ∈ slotsL l) : ∃ r, l[v]? = some r ∧ r.there = true := by
  obtain ⟨j, r, h1, h2, h3⟩ := slotsFrom_mem l 0 v h
  have : v = j := by omega
  subst this
  exact ⟨r, h2, h3⟩

theorem has_of {l : List RowD} {v : Nat} {r : RowD} (h : l[v]? = some r) (hr : r.there = true) : has l (v : Int) = true := by
  have hlt := (List.getElem?_eq_some_iff.1 h).1
  unfold has
  rw [decide_eq_true (by omega), decide_eq_true (by omega), Int.toNat_natCast, List.getD_eq_getElem?_getD, h]
  simpa using hr

theorem cnt_le (l : List RowD) : cnt l ≤ l.length := List.countP_le_length

theorem cnt_append (l l' : List RowD) : cnt (l ++ l') = cnt l + cnt l' := List.countP_append

theorem cnt_free {l : List RowD} (h : ∀ r ∈ l, r.there = false) : cnt l = 0 := by
  unfold cnt
  rw [List.countP_eq_zero]
  intro r hr
  rw [h r hr]; simp

theorem cnt_trim (l : List RowD) : cnt (trim l) = cnt l := by
  obtain ⟨t, e, ht⟩ := trim_split l
  have h := cnt_append (trim l) t
  rw [← e, cnt_free ht] at h
  omega

theorem cnt_set_free (l : List RowD) : ∀ (k : Nat) (r : RowD), l[k]? = some r → r.there = true → cnt (l.set k RowD.free) + 1 = cnt l := by
  induction l with
  | nil => intro k r h; simp at h
  | cons x l ih =>
    intro k r h hr
    cases k with
    | zero =>
      simp at h
      subst h
      simp [cnt, hr, RowD.free]
    | succ k =>
      have := ih k r (by simpa using h) hr
      simp only [cnt, List.set_cons_succ, List.countP_cons] at this ⊢
      omega

theorem cnt_del {l : List RowD} {k : Nat} {r : RowD} (h : l[k]? = some r) (hr : r.there = true) : cnt (delL l k) + 1 = cnt l := by
  unfold delL
  rw [cnt_trim]
  exact cnt_set_free l k r h hr

theorem empty_of_cnt {l : List RowD} (h : Valid l) (h0 : cnt l = 0) : l = [] := by
  rcases last_cases l with ⟨_, hn | ⟨r, hp, hr, ht⟩⟩ | ⟨hl, _⟩
  · exact hn
  · exfalso
    unfold cnt at h0
    rw [List.countP_eq_zero] at h0
    exact h0 r (List.mem_of_getElem? hr) ht
  · rw [h.last] at hl; cases hl

/-- The first row that is put into an empty page. -/
theorem insert_first {s : ByteArray} (h : s.size ≤ 400) : insertS (enc []) s = (enc [⟨s, true⟩], 0, 0) ∧ Valid [⟨s, true⟩] := by
  have h1 : putL [] (lowest []) s = [⟨s, true⟩] := rfl
  have ht : took [⟨s, true⟩] ≤ 512 := by simp [took, tookOf]; omega
  have h2 : putS [] (lowest []) s = (enc [⟨s, true⟩], 0) := by
    unfold putS
    rw [h1, if_neg (by omega), if_neg (by omega)]
  refine ⟨?_, ht, rfl, by simpa using h, by simp⟩
  rw [insertS_some (rowsM_enc Valid.nil), h2, if_pos rfl]
  rfl

end Go.Proofs.Ytbikgahobkbpaaa
