/-
  What is proved here: maps whose block is known whole, for any program: what a store, a look-up does.
  No condition: each lemma names its own.
-/
import Derived.Test.YtipfjjcokajjjaaDoorSep
import Derived.MapKept
namespace Go.Proofs.YtipfjjcokajjjaaDoor
open Go.RowKit
set_option linter.unusedSimpArgs false
set_option linter.unusedVariables false

/-- Only block r is turned: it holds o then. -/
def Turned (w W : World) (r : Nat) (o : Obj) : Prop := W.heap[r]? = some o ∧ Only [r] w W

theorem turned_set {w : World} {r : Nat} {o o' : Obj} (hb : w.heap[r]? = some o) : Turned w { w with heap := w.heap.setIfInBounds r o' } r o' := by
  have h := MapKept.heap_set (o' := o') hb
  exact ⟨h.1, rfl, rfl, rfl, by simp, fun k hk hn => h.2 k (by simpa using hn)⟩

/-- A store at a key that is not there. -/
theorem map_put {P : Program} {w : World} {mty kt et : TypeId} {d : TypeDesc} {r clock : Nat} {es : Array MapEntry} {key : Value} (val : Value) (hm : P.underlying mty = some (.map kt et)) (hk : P.underlying kt = some d)
    (hkey : MapKept.IsKey d key) (hall : ∀ x ∈ es.toList, MapKept.IsKey d x.key) (hb : w.heap[r]? = some (.map es clock)) (hn : ∀ x ∈ es.toList, x.key ≠ key) :
    ∃ W, (Instr.mapUpdate mty (.map (some r)) key val).run P w = .ok () W ∧ Turned w W r (.map (es.push { key := key, val := val, born := clock }) (clock + 1)) := by
  have hf : Instr.findNow d key es.toList 0 = some none := by
    rcases MapKept.findNow_spec hkey es.toList 0 hall with ⟨h, _⟩ | ⟨j, e, _, h2, h3⟩
    · exact h
    · exact absurd h3 (hn e (List.mem_of_getElem? h2))
  have hc : (Instr.checkKey false 10000 kt key).run P w = .ok () w := MapKept.run_checkKey hk hkey false 9999
  refine ⟨_, ?_, turned_set hb⟩
  simp [Instr.mapUpdate, run_underlying hm, MapKept.run_getObj_map hb, hc, MapKept.run_findKey hk hf, MapKept.run_setObj_map _ hb, Result.andThen]

/-- A look-up with 'ok' of a key that is there. -/
theorem map_look {P : Program} {w : World} {mty kt et : TypeId} {d : TypeDesc} {r clock : Nat} {es : Array MapEntry} {key : Value} (hm : P.underlying mty = some (.map kt et)) (hk : P.underlying kt = some d)
    (hkey : MapKept.IsKey d key) (hall : ∀ x ∈ es.toList, MapKept.IsKey d x.key) (hb : w.heap[r]? = some (.map es clock)) {e : MapEntry} (he : e ∈ es.toList) (hek : e.key = key) (huniq : ∀ x ∈ es.toList, x.key = key → x = e) (c : Bool) :
    (Instr.lookup mty (.map (some r)) key c).run P w = .ok (if c then .tuple #[e.val, .bool true] else e.val) w := by
  obtain ⟨j, hf⟩ : ∃ j, Instr.findNow d key es.toList 0 = some (some (j, e.val)) := by
    rcases MapKept.findNow_spec hkey es.toList 0 hall with ⟨_, h⟩ | ⟨j, e', h1, h2, h3⟩
    · exact absurd hek (h e he)
    · obtain rfl := huniq e' (List.mem_of_getElem? h2) h3
      exact ⟨_, h1⟩
  have hc : (Instr.checkKey es.isEmpty 10000 kt key).run P w = .ok () w := MapKept.run_checkKey hk hkey _ 9999
  simp [Instr.lookup, run_underlying hm, MapKept.run_getObj_map hb, hc, MapKept.run_findKey hk hf, Result.andThen]

/-- A look-up of a key that is not there. -/
theorem map_miss {P : Program} {w : World} {mty kt et : TypeId} {d : TypeDesc} {r clock : Nat} {es : Array MapEntry} {key z : Value} (hm : P.underlying mty = some (.map kt et)) (hk : P.underlying kt = some d)
    (hkey : MapKept.IsKey d key) (hall : ∀ x ∈ es.toList, MapKept.IsKey d x.key) (hb : w.heap[r]? = some (.map es clock)) (hn : ∀ x ∈ es.toList, x.key ≠ key) (hz : (zeroValue et).run P w = .ok z w) (c : Bool) :
    (Instr.lookup mty (.map (some r)) key c).run P w = .ok (if c then .tuple #[z, .bool false] else z) w := by
  have hf : Instr.findNow d key es.toList 0 = some none := by
    rcases MapKept.findNow_spec hkey es.toList 0 hall with ⟨h, _⟩ | ⟨j, e, _, h2, h3⟩
    · exact h
    · exact absurd h3 (hn e (List.mem_of_getElem? h2))
  have hc : (Instr.checkKey es.isEmpty 10000 kt key).run P w = .ok () w := MapKept.run_checkKey hk hkey _ 9999
  simp [Instr.lookup, run_underlying hm, MapKept.run_getObj_map hb, hc, MapKept.run_findKey hk hf, hz, Result.andThen]

end Go.Proofs.YtipfjjcokajjjaaDoor
