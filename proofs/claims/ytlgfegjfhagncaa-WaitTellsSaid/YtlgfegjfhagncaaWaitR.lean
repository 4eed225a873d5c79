/-
  What is proved here: reach of package wait: all to which edges lead, of a map that holds the edges.
  Condition: there are at most 100000 edges.
-/
import Derived.Test.YtlgfegjfhagncaaKeysI
import Derived.Carry
import Derived.WalkMore
import Derived.Deep.DeepCutAuto
import Derived.Deep.CutBlock
import Derived.Deep.LoopGhost
set_option linter.unusedSimpArgs false
set_option linter.unusedVariables false
namespace Go.Proofs.Ytlgfegjfhagncaa
open Go.RowKit

theorem Try.infoInt : (Try.prog.info? 3).map (fun i => (i.zero, i.size, i.bytes)) = some (some (.int .i64 0), 1, 8) := by kernel_rfl

/-- The map m holds the edges: to whom they lead from each. -/
def LeadsAt (W : World) (m : Nat) (l : Edges) : Prop :=
  ∃ lds : List (Int × Value), W.heap[m]? = some (mapObj lds) ∧ (lds.map Prod.fst).Nodup ∧
    (∀ a v, (a, v) ∈ lds → ∃ p q, v = .slice p (leads l a).length q ∧ IntsAt W p (leads l a)) ∧ (∀ a, (∀ x ∈ lds, x.1 ≠ a) → leads l a = [])
theorem LeadsAt.only {W W' : World} {m : Nat} {l : Edges} (h : LeadsAt W m l) (ho : Only [] W W') : LeadsAt W' m l := by
  obtain ⟨lds, h1, h2, h3, h4⟩ := h
  refine ⟨lds, ho.keeps h1 (by simp), h2, fun a v hv => ?_, h4⟩
  obtain ⟨p, q, h5, h6⟩ := h3 a v hv
  exact ⟨p, q, h5, h6.only ho⟩
theorem LeadsAt.look {W : World} {m : Nat} {l : Edges} (h : LeadsAt W m l) (a : Int) :
    ∃ p q, IntsAt W p (leads l a) ∧ ∀ V, Only [] W V → (Instr.lookup 37 (.map (some m)) (.int .i64 a) false).run Try.prog V = .ok (.slice p (leads l a).length q) V := by
  obtain ⟨lds, h1, h2, h3, h4⟩ := h
  by_cases hin : ∃ x ∈ lds, x.1 = a
  · obtain ⟨⟨a', v⟩, hx, rfl⟩ := hin
    obtain ⟨p, q, rfl, h6⟩ := h3 _ _ hx
    obtain ⟨i, hi⟩ := List.getElem?_of_mem hx
    exact ⟨p, q, h6, fun V ho => mapI_look Try.underlying37 Try.underlying3 (ho.keeps h1 (by simp)) h2 hi false⟩
  · have hn : ∀ x ∈ lds, x.1 ≠ a := fun x hx hc => hin ⟨x, hx, hc⟩
    rw [h4 a hn]
    exact ⟨none, 0, (by intro k x hx; cases hx), fun V ho => mapI_miss (w := V) a Try.underlying37 Try.underlying3 (ho.keeps h1 (by simp)) hn (Try.zeroValue28 V) false⟩

/-- The numbers that were met, as a map. -/
def metL (ks : List Int) : List (Int × Value) := ks.map (fun k => (k, .int .i64 1))
theorem metL_keys (ks : List Int) : (metL ks).map Prod.fst = ks := by simp [metL, Function.comp_def]
theorem metL_snoc (ks : List Int) (k : Int) : metL ks ++ [(k, .int .i64 1)] = metL (ks ++ [k]) := by simp [metL]
theorem met_look {W : World} {g : Nat} {ks : List Int} (hb : W.heap[g]? = some (mapObj (metL ks))) (hnd : ks.Nodup) (a : Int) :
    (Instr.lookup 46 (.map (some g)) (.int .i64 a) false).run Try.prog W = .ok (.int .i64 (if a ∈ ks then 1 else 0)) W := by
  by_cases h : a ∈ ks
  · obtain ⟨i, hi⟩ := List.getElem?_of_mem h
    rw [if_pos h]
    exact mapI_look Try.underlying46 Try.underlying3 hb (by rw [metL_keys]; exact hnd) (i := i) (v := .int .i64 1) (by simp [metL, hi]) false
  · rw [if_neg h]
    exact mapI_miss (w := W) a Try.underlying46 Try.underlying3 hb (fun x hx hc => by
      simp only [metL, List.mem_map] at hx
      obtain ⟨k, hk, rfl⟩ := hx
      exact h (by simpa using hc ▸ hk)) (Try.zeroValue3 W) false
theorem met_put {W : World} {g : Nat} {ks : List Int} (hb : W.heap[g]? = some (mapObj (metL ks))) (a : Int) (h : a ∉ ks) :
    ∃ W', (Instr.mapUpdate 46 (.map (some g)) (.int .i64 a) (.int .i64 1)).run Try.prog W = .ok () W' ∧ Turned W W' g (mapObj (metL (ks ++ [a]))) := by
  obtain ⟨W', h1, h2⟩ := mapI_put (w := W) a (.int .i64 1) Try.underlying46 Try.underlying3 hb (fun x hx hc => by
    simp only [metL, List.mem_map] at hx
    obtain ⟨k, hk, rfl⟩ := hx
    exact h (by simpa using hc ▸ hk))
  rw [metL_snoc] at h2
  exact ⟨W', h1, h2⟩

theorem Sep.turned {w W W' : World} {g : Nat} {o o' : Obj} {l : List Res} (h : Sep w W (blkRes g o :: l)) (ht : Turned W W' g o') : Sep w W' (blkRes g o' :: l) := by
  refine h.turn ?_
  rintro F ⟨rfl, hb⟩
  exact ⟨[g], ⟨rfl, ht.1⟩, ht.2, Within.refl _ _⟩

theorem Sep.row_full {w W : World} {l : List Res} (h : Sep w W l) (e : TypeId) (size n : Nat) (cs : Array Value) (hn : cs.size = n * size) (hm : n ≤ maxLen) : Sep w (W.alloc (.cells cs e)) (rowRes e size (.slice (some ⟨W.heap.size, 0, none⟩) n n) n cs.toList :: l) :=
  h.made (F := [W.heap.size]) ⟨⟨by simpa using hn, .inr ⟨W.heap.size, n, cs, rfl, Nat.zero_le _, heap_alloc_self, Nat.le_refl _, hm, hn, by rw [List.take_of_length_le (by simp [hn])]⟩⟩, by simp [Value.ownBlock]⟩ (Only.alloc _ _ _) (fun k hk => by right; simp at hk; omega)

theorem Sep.joinNew2 {w W W' : World} {l : List Res} {R : Res} (h : Sep w W l) (k : Sep W W' [R]) : Sep w W' (R :: l) := by
  obtain ⟨F, ⟨F1, F2, rfl, h1, h2, _⟩, ho, hw⟩ := k
  exact h.made h1 ho (fun x hx => hw x (List.mem_append_left _ hx))

/-- A row without its last element. -/
theorem Sep.row_pop {w W : World} {e : TypeId} {p : Option Addr} {n q : Nat} {xs : List Value} {v : Value} {l : List Res} (h : Sep w W (rowRes e 1 (.slice p (n + 1) q) (n + 1) (xs ++ [v]) :: l)) : Sep w W (rowRes e 1 (.slice p n q) n xs :: l) := by
  refine h.turn ?_
  rintro F ⟨ho, rfl⟩
  refine ⟨_, ⟨⟨?_, ?_⟩, rfl⟩, Only.refl _ _, ?_⟩
  · have := ho.1; simp only [List.length_append, List.length_cons, List.length_nil] at this; omega
  · rcases ho.2 with ⟨_, h2⟩ | ⟨g, cap, cur, h1, h2, h3, h4, h5, h6, h7⟩
    · omega
    · simp only [Value.slice.injEq] at h1
      obtain ⟨rfl, _, rfl⟩ := h1
      refine .inr ⟨g, q, cur, rfl, h2, h3, by omega, h5, h6, ?_⟩
      have hl := ho.1
      simp only [List.length_append, List.length_cons, List.length_nil] at hl
      have e1 : cur.toList.take (n * 1) = (cur.toList.take ((n + 1) * 1)).take (n * 1) := by rw [List.take_take, Nat.min_eq_left (by omega)]
      rw [e1, h7]
      rw [List.take_left' (by omega)]
  · cases p <;> exact Within.refl _ _

theorem left_met {l : Edges} {ks : List Int} : left l ks ≤ l.length := List.countP_le_length

structure Bounds (l : Edges) (ks : List Int) : Prop where
  nodup : ks.Nodup
  wf : ∀ k ∈ ks, (Lit.int .i64 k).wf = true
  few : ks.length + left l ks ≤ l.length

theorem Bounds.nil (l : Edges) : Bounds l [] := ⟨List.nodup_nil, by simp, by have := left_met (l := l) (ks := []); simpa using this⟩
theorem Bounds.meet {l : Edges} {ks : List Int} (h : Bounds l ks) {a : Int} (hn : a ∉ ks) (hw : (Lit.int .i64 a).wf = true) (hl : left l (ks ++ [a]) < left l ks) : Bounds l (ks ++ [a]) := by
  refine ⟨List.nodup_append.2 ⟨h.nodup, by simp, fun x hx y hy => ?_⟩, fun k hk => ?_, ?_⟩
  · simp only [List.mem_singleton] at hy
    subst hy
    intro hc; subst hc; exact hn hx
  · rcases List.mem_append.1 hk with h1 | h1
    · exact h.wf k h1
    · simp only [List.mem_singleton] at h1; subst h1; exact hw
  · have := h.few
    rw [List.length_append, List.length_singleton]; omega

set_option maxRecDepth 100000 in
set_option maxHeartbeats 4000000 in
theorem reach_any {W : World} {m : Nat} {l : Edges} (hL : LeadsAt W m l) (hwf : ∀ e ∈ l, (Lit.int .i64 e.2).wf = true) (hl : l.length ≤ 100000) (start : Int) :
    Calls Try.prog 18 #[.map (some m), .int .i64 start] W fun r W' => ∃ xs p q, r = .returned (.slice p (List.length xs) q) ∧ IsReach l start xs ∧ Sep W W' [rowRes 3 1 (.slice p xs.length q) xs.length (intCells xs)] := by
  obtain ⟨ii, II⟩ := info_of Try.infoInt
  have HLE := Lib.hid hL
  have HWF := Lib.hid hwf
  have hmm := @run_makeMap Try.prog
  clear hL hwf
  obtain ⟨g, hg⟩ : ∃ g, g = W.heap.size := ⟨_, rfl⟩
  have hs1 : Sep W (W.alloc (.map #[] 0)) [blkRes g (mapObj (metL []))] := (Sep.nil W).made (F := [g]) ⟨rfl, by rw [hg]; exact heap_alloc_self⟩ (Only.alloc _ _ _) (fun k hk => by right; simp at hk; omega)
  have hs2 := hs1.row_full 3 1 1 #[.int .i64 start] rfl (by unfold maxLen; omega)
  have hsz : (W.alloc (.map #[] 0)).heap.size = g + 1 := by rw [hg]; simp
  rw [hsz] at hs2
  have HS2 : Hid (Sep W ((W.alloc (.map #[] 0)).alloc (.cells #[.int .i64 start] 3)) [rowRes 3 1 (.slice (some ⟨g + 1, 0, none⟩) [start].length 1) [start].length (intCells [start]), blkRes g (mapObj (metL []))]) := hs2
  have HG := Lib.hid hg
  clear hs1 hs2 hg hsz
  go_enter Try.func18, Try.ntmps18
  go_wp2_with fail
  go_step3
  go_wp2_with fail
  go_step3
  go_wp2_with fail
  rw [← HG.out]
  go_loopg [6] (2 * left l [] + 1) (fun k s6 wr => ∃ (ks todo : List Int) (p : Option Addr) (q : Nat), k = 2 * left l ks + todo.length ∧ s6 = .slice p todo.length q ∧ Going l start ks todo ∧ Bounds l ks ∧ todo.length ≤ ks.length + 1 ∧ Sep W wr [rowRes 3 1 (.slice p todo.length q) todo.length (intCells todo), blkRes g (mapObj (metL ks))])
  case atStart => exact ⟨[], [start], some ⟨g + 1, 0, none⟩, 1, rfl, rfl, Going.start l start, Bounds.nil l, by simp, HS2.out⟩
  case round =>
    obtain ⟨ks, todo, p, q, hgk, rfl, hgo, hbd, htl, hs⟩ := hrel
    have HT := Lib.hid hs; clear hs HS2
    have HBD := Lib.hid hbd; clear hbd
    have hksl : ks.length ≤ l.length := by have := HBD.out.few; omega
    rcases List.eq_nil_or_concat todo with rfl | ⟨td, x, rfl⟩
    · have HGO := Lib.hid hgo; clear hgo hgk
      have hmk := HT.out.up1.blk
      have hso := sortedA_any hmk (by rw [metL_keys]; exact HBD.out.nodup) (fun y hy => by
        simp only [metL, List.mem_map] at hy
        obtain ⟨k, hk, rfl⟩ := hy
        exact HBD.out.wf k hk) (by simp only [metL, List.length_map]; omega)
      rw [metL_keys] at hso
      have hml : (metL ks).length = ks.length := by simp [metL]
      have hsl : (sortI ks).length = ks.length := (List.mergeSort_perm ks _).length_eq
      rw [hml, ← hsl] at hso
      have HSO := Lib.hid hso
      have OLD := Lib.hid HT.out.old
      clear hso hmk hml hsl
      simp only [List.length_nil]
      go_wp2_with fail
      refine (keysA_any (some g) _).mono ?_
      rintro e w1 ⟨rfl, rfl⟩
      go_wp2_with fail
      refine HSO.out.mono ?_
      rintro e w2 ⟨pr, qr, rfl, hs2⟩
      have HS2 := Lib.hid hs2; clear hs2
      go_wp2_with fail
      try rw [Exit.noGoto_ret]
      go_ret
      exact ⟨sortI ks, pr, qr, rfl, ⟨sortI_rising HBD.out.nodup, fun y => (sortI_mem ks y).trans (HGO.out.all y)⟩, (Sep.of_old OLD.out).joinNew2 HS2.out⟩
    · rw [List.concat_eq_append] at *
      have hlen : (td ++ [x]).length = td.length + 1 := by simp
      rw [hlen] at hgk htl HT ⊢
      obtain ⟨gt, rfl⟩ := HT.out.rowAt (by simp [intCells])
      have c0 := (HT.out.rowCell (j := td.length) (u := .int .i64 x) (by simp [intCells])).1
      have hpop : Sep W wr [rowRes 3 1 (.slice (some ⟨gt, 0, none⟩) td.length q) td.length (intCells td), blkRes g (mapObj (metL ks))] := by
        have h := HT.out
        rw [intCells_append] at h
        exact h.row_pop
      have HP := Lib.hid hpop
      obtain ⟨pl, ql, hia, hlkV⟩ := HLE.out.look x
      have hlk := hlkV _ HT.out.old
      have HLK := Lib.hid hlkV
      have HIA := Lib.hid hia
      have HTK := Lib.hid hgo.take
      have hrow := HT.out.row
      have hqb : td.length + 1 ≤ q := by
        rcases hrow.2 with ⟨h1, _⟩ | ⟨g', cap, cur, h1, _, _, h4, _⟩
        · cases h1
        · simp only [Value.slice.injEq] at h1; obtain ⟨_, _, rfl⟩ := h1; exact h4
      have hw1 : ((td.length + 1 : Nat) : Int) - 1 = (td.length : Int) := by omega
      have hw2 : (td.length : Int) + 1 - 1 = (td.length : Int) := by omega
      have hw3 : (0 : Int) < (td.length : Int) + 1 := by omega
      have hcj : ((td.length + 1 : Nat) : Int) = (td.length : Int) + 1 := by omega
      clear hgo hpop hia hrow HT hlen hlkV
      obtain ⟨W0, rfl⟩ : ∃ W0, W0 = wr := ⟨_, rfl⟩
      have hll : (leads l x).length ≤ l.length := by
        unfold leads
        rw [List.length_map]
        exact List.length_filter_le _ _
      go_wp2_with fail
      clear hlk c0
      go_loopw [6, 31] (fun s6 s31 wx => ∃ (i : Nat) (ks' todo' : List Int) (p' : Option Addr) (q' : Nat), i ≤ (leads l x).length ∧ s31 = .int .i64 i ∧ s6 = .slice p' todo'.length q' ∧ GoingAt l start x ((leads l x).drop i) ks' todo' ∧ Bounds l ks' ∧ todo'.length ≤ ks'.length + 1 ∧ 2 * left l ks' + todo'.length ≤ 2 * left l ks + td.length ∧ Sep W wx [rowRes 3 1 (.slice p' todo'.length q') todo'.length (intCells todo'), blkRes g (mapObj (metL ks'))]) (fun _ s31 _ => (leads l x).length - (intOf s31).toNat)
      case atStart => exact ⟨0, ks, td, some ⟨gt, 0, none⟩, q, Nat.zero_le _, rfl, rfl, HTK.out, HBD.out, by omega, Nat.le_refl _, HP.out⟩
      case round =>
        obtain ⟨i, ks', todo', p', q', hi, rfl, rfl, hga, hbd, htl', hms, hs⟩ := hrel
        have HS := Lib.hid hs
        have HBD' := Lib.hid hbd
        have hksl' : ks'.length ≤ l.length := by have := HBD'.out.few; omega
        clear hs hbd HP
        by_cases hlt : i < (leads l x).length
        · obtain ⟨y, hy⟩ : ∃ y, (leads l x)[i]? = some y := ⟨_, List.getElem?_eq_getElem hlt⟩
          obtain ⟨bl, ol, rfl, hbl, l0⟩ := HIA.out i y hy
          have d0 := (HS.out.old.cell hbl (by simp)).trans l0
          clear l0
          have hyl : (x, y) ∈ l := (mem_leads l x y).1 (List.mem_of_getElem? hy)
          have hyw := HWF.out _ hyl
          rw [int_drop hy] at hga
          have HGA := Lib.hid hga
          have hml := met_look HS.out.up1.blk HBD'.out.nodup y
          clear hga hy hyl
          by_cases hin : y ∈ ks'
          · rw [if_pos hin] at hml
            have HSK := Lib.hid (HGA.out.skip hin)
            clear hin
            go_wp2_with fail
            go_roundw
            case rel => exact ⟨i + 1, ks', todo', p', q', by omega, by go_num, rfl, HSK.out, HBD'.out, htl', hms, HS.out⟩
            case measure => simp [intOf]; omega
          · rw [if_neg hin] at hml
            obtain ⟨W1, hup, hturn⟩ := met_put HS.out.up1.blk y hin
            have HS1 := Lib.hid ((HS.out.up1.turned hturn).up1)
            have hmem : ∀ z, z ∈ ks' ++ [y] ↔ z = y ∨ z ∈ ks' := fun z => by simp only [List.mem_append, List.mem_singleton]; exact or_comm
            have hleft := HGA.out.left hin hmem
            have HMT := Lib.hid (HGA.out.meet hmem)
            have HB2 := Lib.hid (HBD'.out.meet hin hyw hleft)
            have htl2 : todo'.length ≤ 100001 := by omega
            clear hin hturn
            go_wp2_with (at_builtin; go_must (refine wpList_append_sep (w := W) (e := 3) (cs := #[.int .i64 y]) rfl (.tmp 41) (.tmp 43) 28 rfl ii _ 1 8 Try.underlying28 II.out rfl (by decide) _ todo'.length (intCells todo') rfl rfl (by simp) rfl ?one HS1.out (by unfold maxLen; omega) (by omega) ?_))
            case one => simp [Value.oneCell']
            intro p2 q2 w2 hs4
            have HS4 : Hid (Sep W w2 [rowRes 3 1 (.slice p2 (todo' ++ [y]).length q2) (todo' ++ [y]).length (intCells (todo' ++ [y])), blkRes g (mapObj (metL (ks' ++ [y])))]) := by
              show Sep _ _ _
              rw [intCells_append, List.length_append]
              exact hs4
            clear hs4 hml hup d0
            go_wp2_with fail
            go_roundw
            case rel => exact ⟨i + 1, ks' ++ [y], todo' ++ [y], p2, q2, by omega, by go_num, by simp, HMT.out, HB2.out, by simp; omega, by simp only [List.length_append, List.length_singleton]; omega, HS4.out⟩
            case measure => simp [intOf]; omega
        · rw [List.drop_eq_nil_of_le (by omega)] at hga
          have HGO := Lib.hid hga.end
          have hlk := HLK.out _ HS.out.old
          have hnum : 2 * left l ks' + todo'.length < gk := by omega
          clear hga
          by_cases h0 : (leads l x).length = 0
          · go_wp2_with fail
            go_roundg (2 * left l ks' + todo'.length)
            case measure => exact hnum
            case rel => exact ⟨ks', todo', p', q', rfl, rfl, HGO.out, HBD'.out, htl', HS.out⟩
          · go_wp2_with fail
            go_roundg (2 * left l ks' + todo'.length)
            case measure => exact hnum
            case rel => exact ⟨ks', todo', p', q', rfl, rfl, HGO.out, HBD'.out, htl', HS.out⟩
end Go.Proofs.Ytlgfegjfhagncaa
