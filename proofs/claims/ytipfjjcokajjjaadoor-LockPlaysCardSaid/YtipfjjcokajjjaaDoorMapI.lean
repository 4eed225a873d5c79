/-
  What is proved here: maps from whole numbers whose block is known whole, as a list of keys and values: a look-up, a store; how such a map reads for the library's contract on maps.Keys.
  No condition: each lemma names its own.
-/
import Derived.Test.YtipfjjcokajjjaaDoorMapK
import Derived.Test.YtipfjjcokajjjaaDoorSepParts
import Derived.Maps.Own
import Derived.Lib.SlKeysI
import Derived.Maps.Keyed
set_option linter.unusedSimpArgs false
set_option linter.unusedVariables false
namespace Go.Proofs.YtipfjjcokajjjaaDoor
open Go.RowKit

def entOf (x : (Int × Value) × Nat) : MapEntry := { key := .int .i64 x.1.1, val := x.1.2, born := x.2 }
def entsOf (ks : List (Int × Value)) : Array MapEntry := (ks.zipIdx.map entOf).toArray
/-- The map with these keys, in the order in which they came. -/
def mapObj (ks : List (Int × Value)) : Obj := .map (entsOf ks) ks.length

theorem entsOf_get (ks : List (Int × Value)) (i : Nat) : (entsOf ks).toList[i]? = (ks[i]?).map (fun x => entOf (x, i)) := by
  unfold entsOf
  rw [List.getElem?_map, List.getElem?_zipIdx]
  cases ks[i]? <;> simp
theorem entsOf_push (ks : List (Int × Value)) (a : Int) (v : Value) : entsOf (ks ++ [(a, v)]) = (entsOf ks).push { key := .int .i64 a, val := v, born := ks.length } := by
  unfold entsOf
  rw [List.zipIdx_append, List.map_append]
  simp [entOf]
theorem entsOf_mem {ks : List (Int × Value)} {e : MapEntry} : e ∈ (entsOf ks).toList ↔ ∃ i x, ks[i]? = some x ∧ e = entOf (x, i) := by
  rw [List.mem_iff_getElem?]
  constructor
  · rintro ⟨i, h⟩
    rw [entsOf_get] at h
    obtain ⟨x, h1, h2⟩ := Option.map_eq_some_iff.1 h
    exact ⟨i, x, h1, h2.symm⟩
  · rintro ⟨i, x, h1, rfl⟩
    exact ⟨i, by rw [entsOf_get, h1]; rfl⟩
theorem entsOf_key {ks : List (Int × Value)} : ∀ x ∈ (entsOf ks).toList, MapKept.IsKey (.int .i64) x.key := by
  intro x hx
  obtain ⟨i, y, _, rfl⟩ := entsOf_mem.1 hx
  rfl
theorem entsOf_size (ks : List (Int × Value)) : (entsOf ks).size = ks.length := by simp [entsOf]

section
variable {P : Program} {w : World} {mty kt et : TypeId} {r : Nat} {ks : List (Int × Value)}

theorem mapI_put (a : Int) (val : Value) (hm : P.underlying mty = some (.map kt et)) (hk : P.underlying kt = some (.int .i64)) (hb : w.heap[r]? = some (mapObj ks)) (hn : ∀ x ∈ ks, x.1 ≠ a) :
    ∃ W, (Instr.mapUpdate mty (.map (some r)) (.int .i64 a) val).run P w = .ok () W ∧ Turned w W r (mapObj (ks ++ [(a, val)])) := by
  obtain ⟨W, h1, h2⟩ := map_put (key := .int .i64 a) val hm hk rfl entsOf_key hb (fun x hx => by
    obtain ⟨i, y, hy, rfl⟩ := entsOf_mem.1 hx
    intro hc
    exact hn y (List.mem_of_getElem? hy) (by simpa [entOf] using hc))
  refine ⟨W, h1, ?_⟩
  unfold mapObj
  rw [entsOf_push, List.length_append]
  exact h2

theorem mapI_miss (a : Int) {z : Value} (hm : P.underlying mty = some (.map kt et)) (hk : P.underlying kt = some (.int .i64)) (hb : w.heap[r]? = some (mapObj ks)) (hn : ∀ x ∈ ks, x.1 ≠ a) (hz : (zeroValue et).run P w = .ok z w) (c : Bool) :
    (Instr.lookup mty (.map (some r)) (.int .i64 a) c).run P w = .ok (if c then .tuple #[z, .bool false] else z) w :=
  map_miss (key := .int .i64 a) hm hk rfl entsOf_key hb (fun x hx => by
    obtain ⟨i, y, hy, rfl⟩ := entsOf_mem.1 hx
    intro hc
    exact hn y (List.mem_of_getElem? hy) (by simpa [entOf] using hc)) hz c

theorem keys_inj (hnd : (ks.map Prod.fst).Nodup) {i j : Nat} {x y : Int × Value} (hx : ks[i]? = some x) (hy : ks[j]? = some y) (he : x.1 = y.1) : i = j := by
  have hi := (List.getElem?_eq_some_iff.1 hx).1
  have hj := (List.getElem?_eq_some_iff.1 hy).1
  have hp := List.pairwise_iff_getElem.1 hnd
  obtain ⟨_, h1⟩ := List.getElem?_eq_some_iff.1 hx
  obtain ⟨_, h2⟩ := List.getElem?_eq_some_iff.1 hy
  have key : ∀ (m n : Nat) (hm : m < ks.length) (hn : n < ks.length), m < n → ks[m].1 ≠ ks[n].1 := by
    intro m n hm hn hmn
    have := hp m n (by simpa using hm) (by simpa using hn) hmn
    rwa [List.getElem_map, List.getElem_map] at this
  rcases Nat.lt_trichotomy i j with h | h | h
  · exact absurd (by rw [h1, h2]; exact he) (key i j hi hj h)
  · exact h
  · exact absurd (by rw [h1, h2]; exact he.symm) (key j i hj hi h)

theorem mapI_look {a : Int} {v : Value} {i : Nat} (hm : P.underlying mty = some (.map kt et)) (hk : P.underlying kt = some (.int .i64)) (hb : w.heap[r]? = some (mapObj ks)) (hnd : (ks.map Prod.fst).Nodup) (hi : ks[i]? = some (a, v)) (c : Bool) :
    (Instr.lookup mty (.map (some r)) (.int .i64 a) c).run P w = .ok (if c then .tuple #[v, .bool true] else v) w :=
  map_look (key := .int .i64 a) (e := entOf ((a, v), i)) hm hk rfl entsOf_key hb (entsOf_mem.2 ⟨i, _, hi, rfl⟩) rfl (fun x hx he => by
    obtain ⟨j, y, hy, rfl⟩ := entsOf_mem.1 hx
    have h : y.1 = a := by simpa [entOf] using he
    obtain rfl := keys_inj hnd hy hi h
    rw [hi] at hy
    cases hy; rfl) c

theorem mapI_set {a : Int} {v : Value} {i : Nat} (val : Value) (hm : P.underlying mty = some (.map kt et)) (hk : P.underlying kt = some (.int .i64)) (hb : w.heap[r]? = some (mapObj ks)) (hnd : (ks.map Prod.fst).Nodup) (hi : ks[i]? = some (a, v)) :
    ∃ W, (Instr.mapUpdate mty (.map (some r)) (.int .i64 a) val).run P w = .ok () W ∧ Turned w W r (mapObj (ks.set i (a, val))) := by
  obtain ⟨j, e, h1, h2, h3⟩ : ∃ j e, Instr.findNow (.int .i64) (.int .i64 a) (entsOf ks).toList 0 = some (some (0 + j, e.val)) ∧ (entsOf ks).toList[j]? = some e ∧ e.key = .int .i64 a := by
    rcases MapKept.findNow_spec (d := .int .i64) (k := .int .i64 a) rfl (entsOf ks).toList 0 entsOf_key with ⟨_, h⟩ | ⟨j, e, h1, h2, h3⟩
    · exact absurd rfl (h (entOf ((a, v), i)) (entsOf_mem.2 ⟨i, _, hi, rfl⟩))
    · exact ⟨j, e, h1, h2, h3⟩
  rw [entsOf_get] at h2
  obtain ⟨y, hy, rfl⟩ := Option.map_eq_some_iff.1 h2
  have hya : y.1 = a := by simpa [entOf] using h3
  obtain rfl := keys_inj hnd hy hi hya
  have hj : (entsOf ks)[j]? = some (entOf (y, j)) := by
    have := entsOf_get ks j
    rw [hy] at this
    simpa using this
  refine ⟨_, ?_, turned_set (o' := mapObj (ks.set j (a, val))) hb⟩
  have hes : (entsOf ks).modify j (fun e => { e with key := .int .i64 a, val := val }) = entsOf (ks.set j (a, val)) := by
    apply Array.ext'
    apply List.ext_getElem?
    intro m
    rw [entsOf_get, Array.toList_modify, List.getElem?_modify, entsOf_get]
    by_cases hmj : j = m
    · subst hmj
      have hlt := (List.getElem?_eq_some_iff.1 hy).1
      rw [hy, List.getElem?_set_self hlt]
      simp [entOf]
    · rw [List.getElem?_set_ne hmj]
      cases ks[m]? <;> simp [hmj]
  have hlen : (ks.set j (a, val)).length = ks.length := by simp
  unfold mapObj at hb ⊢
  rw [hlen, ← hes]
  simp only [Nat.zero_add] at h1
  simp [Instr.mapUpdate, run_underlying hm, MapKept.run_getObj_map hb, MapKept.run_checkKey hk (show MapKept.IsKey (.int .i64) (.int .i64 a) from rfl), MapKept.run_findKey hk h1, hj, entOf, hya, MapKept.run_keyThatStays (show MapKept.IsKey (.int .i64) (.int .i64 a) from rfl), MapKept.run_setObj_map _ hb, Result.andThen]
end

theorem insert_perm {H : Type} (x : Lit × DataW H) : ∀ l : List (Lit × DataW H), (DataW.insert x l).Perm (x :: l)
  | [] => List.Perm.refl _
  | y :: r => by
    unfold DataW.insert
    split
    · exact List.Perm.refl _
    · exact ((insert_perm x r).cons y).trans (.swap _ _ _)
theorem sorted_perm {H : Type} : ∀ l : List (Lit × DataW H), (l.foldr DataW.insert []).Perm l
  | [] => List.Perm.refl _
  | x :: r => (insert_perm x _).trans ((sorted_perm r).cons x)

/-- How its elements read: all alike. -/
def anyElem : Value → Option (DataW Unit × List MemPlace) := fun _ => some (.nil, [])

theorem map_owns {P : Program} {W : World} {k : TypeId} {b : Nat} {ks : List (Int × Value)} (hk : P.underlying k = some (.int .i64)) (hb : W.heap[b]? = some (mapObj ks)) (hnd : (ks.map Prod.fst).Nodup) (hw : ∀ x ∈ ks, (Lit.int .i64 x.1).wf = true) (hl : ks.length ≤ maxLen) :
    ∃ D : DataW Unit, W.ownsMap P k anyElem b ks.length D ∧ (intKeys D).Perm (ks.map Prod.fst) ∧ Maps.size D = ks.length := by
  have hrd : ∀ i x, ks[i]? = some x → WideElems.rd P k anyElem (entOf (x, i)) = some (.int .i64 x.1, .nil) := by
    intro i x hx
    refine WideElems.rd_mk (yv := (.nil, [])) ?_ rfl
    have := hw x (List.mem_of_getElem? hx)
    simp [keyOf, hk, mapKey, this]
  have hrg : (entsOf ks).toList.map (WideElems.rg P k anyElem) = ks.map (fun x => (Lit.int .i64 x.1, DataW.nil)) := by
    apply List.ext_getElem?
    intro m
    rw [List.getElem?_map, entsOf_get, List.getElem?_map]
    cases hx : ks[m]? with
    | none => rfl
    | some x => simp only [Option.map_some]; rw [WideElems.rg_of (hrd m x hx)]
  refine ⟨_, ⟨entsOf ks, ks.length, hb, ⟨by rw [entsOf_size]; exact hl, (MapKept.stamped_iff _ _).2 ⟨?_, ?_, ?_⟩, ?_⟩, by rw [entsOf_size]; exact Nat.le_refl _, rfl⟩, ?_, ?_⟩
  · intro x hx
    obtain ⟨i, y, hy, rfl⟩ := entsOf_mem.1 hx
    exact (List.getElem?_eq_some_iff.1 hy).1
  · have : (entsOf ks).toList.map (·.born) = List.range ks.length := by
      apply List.ext_getElem?
      intro m
      rw [List.getElem?_map, entsOf_get]
      by_cases hm : m < ks.length
      · rw [List.getElem?_eq_getElem hm, List.getElem?_range hm]; rfl
      · rw [List.getElem?_eq_none (by omega), List.getElem?_eq_none (by simp; omega)]; rfl
    rw [this]
    exact List.nodup_range
  · refine List.pairwise_iff_getElem.2 (fun i j hi hj hij hc => ?_)
    have e1 : (entsOf ks).toList[i]? = some _ := List.getElem?_eq_getElem hi
    have e2 : (entsOf ks).toList[j]? = some _ := List.getElem?_eq_getElem hj
    rw [entsOf_get] at e1 e2
    obtain ⟨x, hx, h1⟩ := Option.map_eq_some_iff.1 e1
    obtain ⟨y, hy, h2⟩ := Option.map_eq_some_iff.1 e2
    rw [← h1, ← h2] at hc
    have := keys_inj hnd hx hy (by simpa [entOf] using hc)
    omega
  · intro x hx
    obtain ⟨i, y, hy, rfl⟩ := entsOf_mem.1 hx
    exact ⟨_, hrd i y hy⟩
  · show (List.map (fun p : Lit × DataW Unit => intOf p.1) _).Perm _
    rw [hrg]
    refine ((sorted_perm _).map _).trans ?_
    rw [List.map_map]
    exact List.Perm.refl _
  · show (List.length _) = _
    rw [hrg, length_sorted, List.length_map]

end Go.Proofs.YtipfjjcokajjjaaDoor
