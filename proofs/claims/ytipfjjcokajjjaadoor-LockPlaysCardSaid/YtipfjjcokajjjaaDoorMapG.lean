/-
  What is proved here: maps told by the list of their keys and elements, in whatever order (MapIs), for any program: look-up, store, delete, length, and going through one (IterIs).
  No condition: each lemma names its own.
-/
import Derived.Test.YtipfjjcokajjjaaDoorMapK
import Derived.Test.YtipfjjcokajjjaaDoorSepParts
import Derived.Maps.Own
import Derived.Maps.RangeWalk
import Derived.Lib.SlKeysI
import Derived.Maps.Keyed
set_option linter.unusedSimpArgs false
set_option linter.unusedVariables false
namespace Go.Proofs.YtipfjjcokajjjaaDoor
open Go.RowKit

section
variable {α β : Type}

def kvOf (e : MapEntry) : Value × Value := (e.key, e.val)
def kvI (mk : α → Value) (mv : β → Value) (x : α × β) : Value × Value := (mk x.1, mv x.2)

/-- The block holds a map with these keys and elements. -/
def MapIs (mk : α → Value) (mv : β → Value) (ks : List (α × β)) (o : Obj) : Prop :=
  ∃ es clock, o = .map es clock ∧ (es.toList.map kvOf).Perm (ks.map (kvI mk mv)) ∧ MapKept.Stamped es clock

structure KeyOk (mk : α → Value) (d : TypeDesc) : Prop where
  inj : ∀ {a b}, mk a = mk b → a = b
  key : ∀ a, MapKept.IsKey d (mk a)

theorem intKey : KeyOk (Value.int .i64) (.int .i64) := ⟨fun h => by cases h; rfl, fun _ => rfl⟩
theorem strKey : KeyOk Value.string .string := ⟨fun h => by cases h; rfl, fun _ => trivial⟩

/-- What a store leaves. -/
def updL [DecidableEq α] (ks : List (α × β)) (a : α) (v : β) : List (α × β) := ks.filter (fun x => decide (x.1 ≠ a)) ++ [(a, v)]
def delL [DecidableEq α] (ks : List (α × β)) (a : α) : List (α × β) := ks.filter (fun x => decide (x.1 ≠ a))

theorem MapIs.perm {mk : α → Value} {mv : β → Value} {ks ks' : List (α × β)} {o : Obj} (h : MapIs mk mv ks o) (hp : ks.Perm ks') : MapIs mk mv ks' o := by
  obtain ⟨es, clock, e, h1, h2⟩ := h
  exact ⟨es, clock, e, h1.trans (hp.map _), h2⟩

theorem mapIs_nil (mk : α → Value) (mv : β → Value) (c : Nat) : MapIs mk mv [] (.map #[] c) := ⟨_, _, rfl, by simp, MapKept.stamped_empty _⟩

section
variable {mk : α → Value} {mv : β → Value} {d : TypeDesc} {ks : List (α × β)} {es : Array MapEntry} {clock : Nat}

theorem kv_keys (K : KeyOk mk d) (hp : (es.toList.map kvOf).Perm (ks.map (kvI mk mv))) : ∀ x ∈ es.toList, MapKept.IsKey d x.key := by
  intro x hx
  have : kvOf x ∈ ks.map (kvI mk mv) := hp.mem_iff.1 (List.mem_map.2 ⟨x, hx, rfl⟩)
  obtain ⟨y, _, hy⟩ := List.mem_map.1 this
  have : x.key = mk y.1 := by simpa [kvOf, kvI] using (congrArg Prod.fst hy).symm
  rw [this]
  exact K.key _

theorem kv_perm_keys (hp : (es.toList.map kvOf).Perm (ks.map (kvI mk mv))) : (es.toList.map (·.key)).Perm ((ks.map Prod.fst).map mk) := by
  have := hp.map Prod.fst
  rw [List.map_map, List.map_map] at this
  rw [List.map_map]
  exact this

theorem nodup_of_map {γ δ : Type} (f : γ → δ) : ∀ {l : List γ}, (l.map f).Nodup → l.Nodup
  | [], _ => List.nodup_nil
  | x :: l, h => by
    rw [List.map_cons, List.nodup_cons] at h
    exact List.nodup_cons.2 ⟨fun q => h.1 (List.mem_map.2 ⟨x, q, rfl⟩), nodup_of_map f h.2⟩

theorem MapIs.nodup {o : Obj} (h : MapIs mk mv ks o) : (ks.map Prod.fst).Nodup := by
  obtain ⟨es, clock, _, hp, hs⟩ := h
  exact nodup_of_map mk ((kv_perm_keys hp).nodup_iff.1 hs.2.2)

theorem kv_mem (hp : (es.toList.map kvOf).Perm (ks.map (kvI mk mv))) {x : α × β} (hx : x ∈ ks) : ∃ e ∈ es.toList, e.key = mk x.1 ∧ e.val = mv x.2 := by
  have : kvI mk mv x ∈ es.toList.map kvOf := hp.mem_iff.2 (List.mem_map.2 ⟨x, hx, rfl⟩)
  obtain ⟨e, he, hk⟩ := List.mem_map.1 this
  exact ⟨e, he, congrArg Prod.fst hk, congrArg Prod.snd hk⟩

theorem kv_not (K : KeyOk mk d) (hp : (es.toList.map kvOf).Perm (ks.map (kvI mk mv))) {a : α} (hn : ∀ x ∈ ks, x.1 ≠ a) : ∀ e ∈ es.toList, e.key ≠ mk a := by
  intro e he hk
  have : kvOf e ∈ ks.map (kvI mk mv) := hp.mem_iff.1 (List.mem_map.2 ⟨e, he, rfl⟩)
  obtain ⟨y, hy, hyk⟩ := List.mem_map.1 this
  have h1 : mk y.1 = e.key := congrArg Prod.fst hyk
  exact hn y hy (K.inj (h1.trans hk))

theorem kv_uniq (hs : MapKept.Stamped es clock) {e f : MapEntry} (he : e ∈ es.toList) (hf : f ∈ es.toList) (hk : f.key = e.key) : f = e := by
  have hp := ((MapKept.stamped_iff _ _).1 hs).2.2
  obtain ⟨i, hi⟩ := List.mem_iff_getElem?.1 he
  obtain ⟨j, hj⟩ := List.mem_iff_getElem?.1 hf
  obtain ⟨li, ei⟩ := List.getElem?_eq_some_iff.1 hi
  obtain ⟨lj, ej⟩ := List.getElem?_eq_some_iff.1 hj
  have hq := List.pairwise_iff_getElem.1 hp
  rcases Nat.lt_trichotomy i j with h | h | h
  · exact absurd (by rw [ei, ej]; exact hk.symm) (hq i j li lj h)
  · subst h; rw [← ei, ← ej]
  · exact absurd (by rw [ei, ej]; exact hk) (hq j i lj li h)
end

section
variable {P : Program} {w : World} {mty kt et : TypeId} {r : Nat} {ks : List (α × β)} {mk : α → Value} {mv : β → Value} {d : TypeDesc} {o : Obj}

theorem mapG_look (K : KeyOk mk d) (hm : P.underlying mty = some (.map kt et)) (hk : P.underlying kt = some d) (hb : w.heap[r]? = some o) (h : MapIs mk mv ks o) {a : α} {v : β} (hx : (a, v) ∈ ks) (c : Bool) :
    (Instr.lookup mty (.map (some r)) (mk a) c).run P w = .ok (if c then .tuple #[mv v, .bool true] else mv v) w := by
  obtain ⟨es, clock, rfl, hp, hs⟩ := h
  obtain ⟨e, he, hek, hev⟩ := kv_mem hp hx
  rw [← hev]
  exact map_look hm hk (K.key a) (kv_keys K hp) hb he hek (fun x hx hxk => kv_uniq hs he hx (hxk.trans hek.symm)) c

theorem mapG_miss (K : KeyOk mk d) (hm : P.underlying mty = some (.map kt et)) (hk : P.underlying kt = some d) (hb : w.heap[r]? = some o) (h : MapIs mk mv ks o) {a : α} (hn : ∀ x ∈ ks, x.1 ≠ a) {z : Value} (hz : (zeroValue et).run P w = .ok z w) (c : Bool) :
    (Instr.lookup mty (.map (some r)) (mk a) c).run P w = .ok (if c then .tuple #[z, .bool false] else z) w := by
  obtain ⟨es, clock, rfl, hp, hs⟩ := h
  exact map_miss hm hk (K.key a) (kv_keys K hp) hb (kv_not K hp hn) hz c

theorem mapG_len (hm : P.underlying mty = some (.map kt et)) (hb : w.heap[r]? = some o) (h : MapIs mk mv ks o) (ty : TypeId) :
    (Builtin.len_ #[mty] ty #[.map (some r)]).run P w = .ok (.int .i64 ks.length) w := by
  obtain ⟨es, clock, rfl, hp, hs⟩ := h
  have : es.size = ks.length := by have := hp.length_eq; simpa using this
  simp [Builtin.len_, run_underlying hm, MapKept.run_getObj_map hb, goInt, Result.andThen, this]

theorem filter_no [DecidableEq α] {ks : List (α × β)} {a : α} (hn : ∀ x ∈ ks, x.1 ≠ a) : delL ks a = ks := List.filter_eq_self.2 (fun x hx => by simpa using hn x hx)

/-- One entry is taken out. -/
theorem kv_out [DecidableEq α] (K : KeyOk mk d) {es : Array MapEntry} (hp : (es.toList.map kvOf).Perm (ks.map (kvI mk mv))) (hnd : (ks.map Prod.fst).Nodup) {j : Nat} {e : MapEntry} (hj : es.toList[j]? = some e) {a : α} (hek : e.key = mk a) :
    ((es.toList.eraseIdx j).map kvOf).Perm ((delL ks a).map (kvI mk mv)) ∧ ∃ v, e.val = mv v ∧ (a, v) ∈ ks := by
  have hmem : kvOf e ∈ ks.map (kvI mk mv) := hp.mem_iff.1 (List.mem_map.2 ⟨e, List.mem_of_getElem? hj, rfl⟩)
  obtain ⟨x, hx, hxk⟩ := List.mem_map.1 hmem
  have hxa : x.1 = a := K.inj (by rw [← hek]; exact congrArg Prod.fst hxk)
  obtain ⟨v, rfl⟩ : ∃ v, x = (a, v) := ⟨x.2, by rw [← hxa]⟩
  obtain ⟨s, t, rfl⟩ := List.append_of_mem hx
  have hns : ∀ y ∈ s ++ t, y.1 ≠ a := by
    intro y hy hya
    rw [List.map_append, List.map_cons] at hnd
    have := List.nodup_append.1 hnd
    rcases List.mem_append.1 hy with q | q
    · exact this.2.2 _ (List.mem_map.2 ⟨y, q, rfl⟩) _ (List.mem_cons_self ..) hya
    · exact (List.nodup_cons.1 this.2.1).1 (by rw [← hya]; exact List.mem_map.2 ⟨y, q, rfl⟩)
  have hdel : delL (s ++ (a, v) :: t) a = s ++ t := by
    unfold delL
    rw [List.filter_append, List.filter_cons_of_neg (by simp), ← List.filter_append]
    exact filter_no hns
  refine ⟨?_, v, congrArg Prod.snd hxk.symm, hx⟩
  rw [hdel]
  have h1 : (es.toList.map kvOf).Perm (kvOf e :: (es.toList.eraseIdx j).map kvOf) := by
    have hlt := (List.getElem?_eq_some_iff.1 hj).1
    have he : es.toList[j] = e := (List.getElem?_eq_some_iff.1 hj).2
    have : es.toList.Perm (e :: es.toList.eraseIdx j) := by
      rw [← he]
      have h2 : es.toList = es.toList.take j ++ es.toList[j] :: es.toList.drop (j + 1) := by
        rw [List.getElem_cons_drop, List.take_append_drop]
      rw [List.eraseIdx_eq_take_drop_succ]
      conv => lhs; rw [h2]
      exact List.perm_middle
    exact this.map kvOf
  have h2 : ((s ++ (a, v) :: t).map (kvI mk mv)).Perm (kvI mk mv (a, v) :: (s ++ t).map (kvI mk mv)) := (List.perm_middle (a := (a, v))).map _
  have h3 := (h1.symm.trans hp).trans h2
  rw [hxk] at h3
  exact h3.cons_inv

/-- A store. -/
theorem mapG_upd [DecidableEq α] (K : KeyOk mk d) (hm : P.underlying mty = some (.map kt et)) (hk : P.underlying kt = some d) (hb : w.heap[r]? = some o) (h : MapIs mk mv ks o) (a : α) (v : β) :
    ∃ W o', (Instr.mapUpdate mty (.map (some r)) (mk a) (mv v)).run P w = .ok () W ∧ MapIs mk mv (updL ks a v) o' ∧ Turned w W r o' := by
  have hnd := h.nodup
  obtain ⟨es, clock, rfl, hp, hs⟩ := h
  rcases MapKept.findNow_spec (d := d) (k := mk a) (K.key a) es.toList 0 (kv_keys K hp) with ⟨h1, h2⟩ | ⟨j, e, h1, h2, h3⟩
  · obtain ⟨W, hr, ht⟩ := map_put (mv v) hm hk (K.key a) (kv_keys K hp) hb h2
    refine ⟨W, _, hr, ⟨_, _, rfl, ?_, MapKept.stamped_push hs h2⟩, ht⟩
    have hn : ∀ x ∈ ks, x.1 ≠ a := by
      intro x hx hxa
      obtain ⟨e, he, hek, _⟩ := kv_mem hp hx
      exact h2 e he (by rw [hek, hxa])
    rw [Array.toList_push, List.map_append, updL, List.map_append]
    rw [show ks.filter (fun x => decide (x.1 ≠ a)) = ks from filter_no hn]
    exact hp.append (List.Perm.refl _)
  · have hj : es[j]? = some e := by simpa using h2
    have hlt : j < es.toList.length := (List.getElem?_eq_some_iff.1 h2).1
    have hc : (Instr.checkKey false 10000 kt (mk a)).run P w = .ok () w := MapKept.run_checkKey hk (K.key a) false 9999
    simp only [Nat.zero_add] at h1
    have hstay : (Instr.keyThatStays (mk a) (mk a)).run P w = .ok (mk a) w := MapKept.run_keyThatStays (K.key a)
    refine ⟨_, .map (es.modify j (fun e => { e with key := mk a, val := mv v })) clock, ?_, ⟨_, _, rfl, ?_, ?_⟩, turned_set hb⟩
    · simp [Instr.mapUpdate, run_underlying hm, MapKept.run_getObj_map hb, hc, MapKept.run_findKey hk h1, hj, h3, hstay, MapKept.run_setObj_map _ hb, Result.andThen]
    · obtain ⟨hout, _⟩ := kv_out K hp hnd h2 h3
      have e1 : ((es.modify j (fun e => { e with key := mk a, val := mv v })).toList.map kvOf).Perm ((es.toList.eraseIdx j).map kvOf ++ [(mk a, mv v)]) := by
        rw [Array.toList_modify]
        have h4 : es.toList.modify j (fun e => { e with key := mk a, val := mv v }) = es.toList.take j ++ { e with key := mk a, val := mv v } :: es.toList.drop (j + 1) := by
          rw [List.modify_eq_take_cons_drop hlt, (List.getElem?_eq_some_iff.1 h2).2]
        rw [h4, List.eraseIdx_eq_take_drop_succ, List.map_append, List.map_cons, List.map_append]
        exact List.perm_middle.trans (List.perm_append_comm (l₁ := [(mk a, mv v)]))
      rw [updL, List.map_append]
      exact e1.trans (hout.append (List.Perm.refl _))
    · exact MapKept.stamped_modify hs _ _ (fun _ _ => rfl) (fun e' _ he' => by rw [hj] at he'; cases he'; exact h3.symm)

/-- 'delete'. -/
theorem mapG_del [DecidableEq α] (K : KeyOk mk d) (hm : P.underlying mty = some (.map kt et)) (hk : P.underlying kt = some d) (hb : w.heap[r]? = some o) (h : MapIs mk mv ks o) (a : α) (ty : TypeId) (kt' : TypeId) :
    ∃ W o', (Builtin.delete_ #[mty, kt'] ty #[.map (some r), mk a]).run P w = .ok (.tuple #[]) W ∧ MapIs mk mv (delL ks a) o' ∧ Turned w W r o' := by
  have hnd := h.nodup
  obtain ⟨es, clock, rfl, hp, hs⟩ := h
  have hc : (Instr.checkKey es.isEmpty 10000 kt (mk a)).run P w = .ok () w := MapKept.run_checkKey hk (K.key a) _ 9999
  rcases MapKept.findNow_spec (d := d) (k := mk a) (K.key a) es.toList 0 (kv_keys K hp) with ⟨h1, h2⟩ | ⟨j, e, h1, h2, h3⟩
  · refine ⟨_, .map es clock, ?_, ⟨_, _, rfl, ?_, hs⟩, turned_set hb⟩
    · simp [Builtin.delete_, run_underlying hm, MapKept.run_getObj_map hb, hc, MapKept.run_findKey hk h1, MapKept.run_setObj_map _ hb, Result.andThen]
    · have hn : ∀ x ∈ ks, x.1 ≠ a := by
        intro x hx hxa
        obtain ⟨e, he, hek, _⟩ := kv_mem hp hx
        exact h2 e he (by rw [hek, hxa])
      rw [filter_no hn]
      exact hp
  · simp only [Nat.zero_add] at h1
    have hlt : j < es.toList.length := (List.getElem?_eq_some_iff.1 h2).1
    refine ⟨_, .map (es.eraseIdxIfInBounds j) clock, ?_, ⟨_, _, rfl, ?_, MapKept.stamped_erase hs j⟩, turned_set hb⟩
    · simp [Builtin.delete_, run_underlying hm, MapKept.run_getObj_map hb, hc, MapKept.run_findKey hk h1, MapKept.run_setObj_map _ hb, Result.andThen]
    · have e1 : (es.eraseIdxIfInBounds j).toList = es.toList.eraseIdx j := by
        unfold Array.eraseIdxIfInBounds
        have : j < es.size := by simpa using hlt
        simp [this]
      rw [e1]
      exact (kv_out K hp hnd h2 h3).1
end

/-- Somebody goes through the map in block bm; these are still to come. -/
def IterIs (W : World) (mk : α → Value) (mv : β → Value) (r bm : Nat) (todo : List (α × β)) : Prop :=
  ∃ es clock since seen c0, W.heap[r]? = some (.mapIter (some bm) since seen c0) ∧ W.heap[bm]? = some (.map es clock) ∧ (∀ x ∈ es.toList, x.born < since) ∧ since ≤ c0 ∧ since ≤ clock ∧ MapKept.Stamped es clock ∧
    ((leftOf es seen).toList.map kvOf).Perm (todo.map (kvI mk mv))

theorem IterIs.only {W W' : World} {mk : α → Value} {mv : β → Value} {r bm : Nat} {todo : List (α × β)} {G : List Nat} (h : IterIs W mk mv r bm todo) (ho : Only G W W') (h1 : r ∉ G) (h2 : bm ∉ G) : IterIs W' mk mv r bm todo := by
  obtain ⟨es, clock, since, seen, c0, a, b, c⟩ := h
  exact ⟨es, clock, since, seen, c0, ho.keeps a h1, ho.keeps b h2, c⟩

section
variable {P : Program} {W : World} {r bm : Nat} {mk : α → Value} {mv : β → Value}

theorem iter_start {ks : List (α × β)} {o : Obj} (hb : W.heap[bm]? = some o) (h : MapIs mk mv ks o) (ty : TypeId) {kt et : TypeId} (hm : P.underlying ty = some (.map kt et)) :
    ∃ W', (Instr.range ty (.map (some bm))).run P W = .ok (.pointer (some ⟨W.heap.size, 0, none⟩)) W' ∧ IterIs W' mk mv W.heap.size bm ks ∧ Only [] W W' ∧ W'.heap.size = W.heap.size + 1 := by
  obtain ⟨es, clock, rfl, hp, hs⟩ := h
  refine ⟨W.alloc (.mapIter (some bm) clock #[] clock), ?_, ⟨es, clock, clock, #[], clock, ?_, ?_, hs.1, Nat.le_refl _, Nat.le_refl _, hs, ?_⟩, Only.alloc _ _ _, by simp⟩
  · simp [Instr.range, run_underlying hm, MapKept.run_getObj_map hb, Result.andThen]
  · exact (MapKept.heap_alloc W _).1
  · exact ((MapKept.heap_alloc W _).2 bm (lt_of_block hb)).trans hb
  · have : leftOf es #[] = es := by unfold leftOf; simp
    rw [this]; exact hp

theorem only_setBlock {w : World} {r : Nat} (o : Obj) : Only [r] w (ChangeMaps.setBlock w r o) :=
  ⟨rfl, rfl, rfl, by simp [ChangeMaps.setBlock], fun k hk hn => by simp [ChangeMaps.setBlock, Ne.symm (show k ≠ r by simpa using hn)]⟩

theorem iter_next {todo : List (α × β)} (h : IterIs W mk mv r bm todo) (hne : r ≠ bm) (ty : TypeId) :
    (todo = [] ∧ (Instr.next (.pointer (some ⟨r, 0, none⟩)) false ty).run P W = .ok (.tuple #[.bool false]) W) ∨
    ∃ x todo' W', todo.Perm (x :: todo') ∧ (Instr.next (.pointer (some ⟨r, 0, none⟩)) false ty).run P W = .ok (.tuple #[.bool true, mk x.1, mv x.2]) W' ∧
      (Instr.entry (.pointer (some ⟨r, 0, none⟩))).run P W' = .ok (.tuple #[mk x.1, mv x.2]) W' ∧ IterIs W' mk mv r bm todo' ∧ Only [r] W W' := by
  obtain ⟨es, clock, since, seen, c0, hr, hb, hold, hsc, hscl, hs, hp⟩ := h
  rcases run_next_at (P := P) W ty r bm since c0 seen es clock hr hb hold hsc with ⟨h0, hrun⟩ | ⟨e, he, w1, hw1, hrun⟩
  · left
    have : leftOf es seen = #[] := Array.eq_empty_of_size_eq_zero h0
    rw [this] at hp
    have h1 := hp.length_eq
    simp at h1
    exact ⟨List.eq_nil_of_length_eq_zero h1.symm, hrun⟩
  · right
    obtain ⟨x, hx, hxe⟩ := List.mem_map.1 (hp.mem_iff.1 (List.mem_map.2 ⟨e, he, rfl⟩))
    obtain ⟨s, t, rfl⟩ := List.append_of_mem hx
    have hk : e.key = mk x.1 := (congrArg Prod.fst hxe).symm
    have hv : e.val = mv x.2 := (congrArg Prod.snd hxe).symm
    have hlt : r < W.heap.size := lt_of_block hr
    have hr1 : (ChangeMaps.setBlock w1 r (.mapIter (some bm) since (seen.push e.born) clock)).heap[r]? = some (.mapIter (some bm) since (seen.push e.born) clock) := by
      have : r < w1.heap.size := by rcases hw1 with rfl | rfl <;> exact hlt
      simp [ChangeMaps.setBlock, this]
    have hb1 : (ChangeMaps.setBlock w1 r (.mapIter (some bm) since (seen.push e.born) clock)).heap[bm]? = some (.map es clock) := by
      have : w1.heap[bm]? = some (.map es clock) := by rcases hw1 with rfl | rfl <;> exact hb
      simp [ChangeMaps.setBlock, hne, this]
    have hmem : e ∈ es.toList := by
      have := he
      unfold leftOf at this
      simp at this
      simpa using this.1
    have hborn := hs.2.1
    refine ⟨x, s ++ t, _, List.perm_middle, by rw [← hk, ← hv]; exact hrun, ?_, ⟨es, clock, since, _, clock, hr1, hb1, hold, hscl, hscl, hs, ?_⟩, ?_⟩
    · rw [← hk, ← hv]
      exact run_entry_at _ r bm since seen es clock e hr1 hb1 hmem hborn
    · have h1 : (leftOf es (seen.push e.born)).toList = (leftOf es seen).toList.filter (fun y => y.born != e.born) := by
        unfold leftOf
        rw [Array.toList_filter, Array.toList_filter, List.filter_filter]
        apply List.filter_congr
        intro y _
        by_cases h : y.born = e.born <;> simp [h]
      have h2 : (leftOf es seen).toList.Perm (e :: (leftOf es seen).toList.filter (fun y => y.born != e.born)) := by
        obtain ⟨u, v, huv⟩ := List.append_of_mem he
        have hnd : ((leftOf es seen).toList.map (·.born)).Nodup := by
          unfold leftOf
          rw [Array.toList_filter]
          exact (List.filter_sublist.map _).nodup hborn
        rw [huv]
        rw [huv, List.map_append, List.map_cons] at hnd
        have hq := List.nodup_append.1 hnd
        have hno : ∀ y ∈ u ++ v, (y.born != e.born) = true := by
          intro y hy
          simp only [bne_iff_ne, ne_eq]
          intro hye
          rcases List.mem_append.1 hy with q | q
          · exact hq.2.2 _ (List.mem_map.2 ⟨y, q, rfl⟩) _ (List.mem_cons_self ..) hye
          · exact (List.nodup_cons.1 hq.2.1).1 (by rw [← hye]; exact List.mem_map.2 ⟨y, q, rfl⟩)
        rw [List.filter_append, List.filter_cons_of_neg (by simp), ← List.filter_append, List.filter_eq_self.2 hno]
        exact List.perm_middle
      rw [h1]
      have h3 := ((h2.map kvOf).symm.trans hp).trans ((List.perm_middle (a := x)).map _)
      rw [List.map_cons, List.map_cons, hxe] at h3
      exact h3.cons_inv
    · rcases hw1 with rfl | rfl
      · exact only_setBlock _
      · exact (Only.drew [r] W).trans (only_setBlock _) (Within.refl _ _)
end
end

end Go.Proofs.YtipfjjcokajjjaaDoor
