/-
  What is proved here: the table of locks in memory (tabRes); lock.New, Mode, Waits, and whether a holder may have a thing (free).
  No condition: each lemma names its own.
-/
import Derived.Test.YtipfjjcokajjjaaDoorMapG
import Derived.Test.YtipfjjcokajjjaaDoorWin
import Derived.Test.YtipfjjcokajjjaaDoorLockM
set_option linter.unusedVariables false
set_option linter.unusedSimpArgs false
namespace Go.Proofs.YtipfjjcokajjjaaDoor
open Go.RowKit

abbrev mInt : Int → Value := Value.int .i64
abbrev mStr : ByteArray → Value := Value.string
abbrev mPtr (g : Nat) : Value := .pointer (some ⟨g, 0, none⟩)
def wCells (l : HM) : List Value := l.flatMap (fun x => [.int .i64 x.1, .int .i64 x.2])

/-- A map as a part of memory. -/
def mapRes {α β : Type} (mk : α → Value) (mv : β → Value) (ks : List (α × β)) (r : Nat) : Res := exRes (fun o : Obj => [blkRes r o]) (fun o => MapIs mk mv ks o)

theorem Sep.map {α β : Type} {mk : α → Value} {mv : β → Value} {ks : List (α × β)} {r : Nat} {w W : World} {l : List Res} (h : Sep w W (mapRes mk mv ks r :: l)) : ∃ o, W.heap[r]? = some o ∧ MapIs mk mv ks o := by
  obtain ⟨o, h1, h2⟩ := h.open
  exact ⟨o, h1.blk, h2⟩
theorem Sep.mapTurn {α β : Type} {mk : α → Value} {mv : β → Value} {ks ks' : List (α × β)} {r : Nat} {w W W' : World} {o' : Obj} {l : List Res} (h : Sep w W (mapRes mk mv ks r :: l)) (ht : Turned W W' r o') (hm : MapIs mk mv ks' o') : Sep w W' (mapRes mk mv ks' r :: l) := by
  refine h.turn ?_
  rintro F ⟨o, ⟨F1, F2, rfl, ⟨rfl, hb⟩, rfl, _⟩, _⟩
  exact ⟨[r], ⟨o', ⟨[r], [], rfl, ⟨rfl, ht.1⟩, rfl, by simp⟩, hm⟩, by simpa using ht.2, by simpa using Within.refl _ _⟩
theorem Sep.mapNew {α β : Type} (mk : α → Value) (mv : β → Value) {w W : World} {l : List Res} (h : Sep w W l) (c : Nat) : Sep w (W.alloc (.map #[] c)) (mapRes mk mv [] W.heap.size :: l) :=
  h.made (F := [W.heap.size]) ⟨.map #[] c, ⟨[W.heap.size], [], rfl, ⟨rfl, heap_alloc_self⟩, rfl, by simp⟩, mapIs_nil _ _ _⟩ (Only.alloc _ _ _) (fun k hk => by right; simp at hk; omega)
theorem Sep.mapPerm {α β : Type} {mk : α → Value} {mv : β → Value} {ks ks' : List (α × β)} {r : Nat} {w W : World} {l : List Res} (h : Sep w W (mapRes mk mv ks r :: l)) (hp : ks.Perm ks') : Sep w W (mapRes mk mv ks' r :: l) := by
  obtain ⟨o, h1, h2⟩ := h.open
  exact Sep.close o h1 (h2.perm hp)

def queueParts (p : Nat) (has q : HM) (x : Nat × Value) : List Res := [blkRes p (.cells #[.map (some x.1), x.2] 61 (0, 0)), mapRes mInt mInt has x.1, winRes 65 2 x.2 q.length (wCells q)]
def queueRes (p : Nat) (has q : HM) : Res := exRes (queueParts p has q) (fun _ => True)

abbrev TP := List (Th × Nat)
def queuesOf (tp : TP) : List Res := tp.map (fun y => queueRes y.2 y.1.has y.1.q)
def namesOf (tp : TP) : List (ByteArray × Nat) := tp.map (fun y => (y.1.name, y.2))
def tabParts (b : Nat) (t : Tab) (x : (Nat × Nat) × TP) : List Res :=
  blkRes b (.cells #[.map (some x.1.1), .map (some x.1.2)] 56 (0, 0)) :: mapRes mStr mPtr (namesOf x.2) x.1.1 :: mapRes mInt mStr (waitsL t) x.1.2 :: queuesOf x.2
def tabRes (b : Nat) (t : Tab) : Res := exRes (tabParts b t) (fun x => x.2.map Prod.fst = t)

/-! Look-ups. -/

theorem modes_look {P : Program} {w : World} {mty kt et : TypeId} {r : Nat} {o : Obj} {has : HM} (hm : P.underlying mty = some (.map kt et)) (hk : P.underlying kt = some (.int .i64)) (hz : ∀ w, (zeroValue et).run P w = .ok (.int .i64 0) w) (hb : w.heap[r]? = some o) (h : MapIs mInt mInt has o) (hh : Modes has) (a : Int) :
    (Instr.lookup mty (.map (some r)) (.int .i64 a) false).run P w = .ok (.int .i64 (modeL has a)) w := by
  rcases modeL_cases hh a with ⟨h1, h2⟩ | ⟨_, h2⟩
  · rw [h1]
    exact mapG_miss intKey hm hk hb h h2 (hz w) false
  · exact mapG_look intKey hm hk hb h h2 false
theorem modes_look_ok {P : Program} {w : World} {mty kt et : TypeId} {r : Nat} {o : Obj} {has : HM} (hm : P.underlying mty = some (.map kt et)) (hk : P.underlying kt = some (.int .i64)) (hz : ∀ w, (zeroValue et).run P w = .ok (.int .i64 0) w) (hb : w.heap[r]? = some o) (h : MapIs mInt mInt has o) (hh : Modes has) (a : Int) :
    (Instr.lookup mty (.map (some r)) (.int .i64 a) true).run P w = .ok (.tuple #[.int .i64 (modeL has a), .bool (decide (0 < modeL has a))]) w := by
  rcases modeL_cases hh a with ⟨h1, h2⟩ | ⟨h1, h2⟩
  · rw [h1]
    exact mapG_miss intKey hm hk hb h h2 (hz w) true
  · rw [show decide (0 < modeL has a) = true from by rw [decide_eq_true_eq]; omega]
    exact mapG_look intKey hm hk hb h h2 true

theorem waits_look {P : Program} {w : World} {mty kt et : TypeId} {r : Nat} {o : Obj} {t : Tab} (hm : P.underlying mty = some (.map kt et)) (hk : P.underlying kt = some (.int .i64)) (hz : ∀ w, (zeroValue et).run P w = .ok (.string ⟨#[]⟩) w) (hb : w.heap[r]? = some o) (h : MapIs mInt mStr (waitsL t) o) (hg : Good t) (a : Int) :
    (Instr.lookup mty (.map (some r)) (.int .i64 a) true).run P w = .ok (.tuple #[.string ((waitsM t a).getD ⟨#[]⟩), .bool (waitsM t a).isSome]) w := by
  cases e : waitsM t a with
  | none => exact mapG_miss intKey hm hk hb h (waitsM_none hg.each e) (hz w) true
  | some n => exact mapG_look intKey hm hk hb h (waitsM_some hg.each e) true

/-! The table, opened. -/

theorem names_miss {tp : TP} {t : Tab} (ht : tp.map Prod.fst = t) {n : ByteArray} (hn : ∀ x ∈ t, x.name ≠ n) : ∀ x ∈ namesOf tp, x.1 ≠ n := by
  subst ht
  intro x hx
  obtain ⟨y, hy, rfl⟩ := List.mem_map.1 hx
  exact hn y.1 (List.mem_map.2 ⟨y, hy, rfl⟩)
theorem names_hit {tp : TP} {t A B : Tab} {x : Th} (ht : tp.map Prod.fst = t) (hs : t = A ++ x :: B) : ∃ ta p tb, tp = ta ++ (x, p) :: tb ∧ ta.map Prod.fst = A ∧ tb.map Prod.fst = B := by
  subst ht
  obtain ⟨ta, tc, h1, h2, h3⟩ := List.map_eq_append_iff.1 hs
  obtain ⟨y, tb, h4, h5, h6⟩ := List.map_eq_cons_iff.1 h3
  subst h1 h4 h2 h6
  obtain ⟨y1, y2⟩ := y
  simp only at h5
  subst h5
  exact ⟨ta, y2, tb, rfl, rfl, rfl⟩
theorem names_mem {ta tb : TP} {x : Th} {p : Nat} : (x.name, p) ∈ namesOf (ta ++ (x, p) :: tb) := by simp [namesOf]

/-- The queue of one thing comes to the front. -/
theorem Sep.queueUp {w W : World} {a b c : Res} {l : List Res} {ta tb : TP} {x : Th} {p : Nat} (h : Sep w W (a :: b :: c :: queuesOf (ta ++ (x, p) :: tb) ++ l)) : Sep w W (queueRes p x.has x.q :: a :: b :: c :: queuesOf ta ++ (queuesOf tb ++ l)) := by
  refine h.perm ?_
  unfold queuesOf
  simp only [List.map_append, List.map_cons, List.cons_append, List.append_assoc]
  have h1 : (List.map (fun y : Th × Nat => queueRes y.2 y.1.has y.1.q) ta ++ queueRes p x.has x.q :: (List.map (fun y : Th × Nat => queueRes y.2 y.1.has y.1.q) tb ++ l)).Perm (queueRes p x.has x.q :: (List.map (fun y : Th × Nat => queueRes y.2 y.1.has y.1.q) ta ++ (List.map (fun y : Th × Nat => queueRes y.2 y.1.has y.1.q) tb ++ l))) := List.perm_middle
  refine (List.Perm.cons _ (List.Perm.cons _ (List.Perm.cons _ h1))).trans ?_
  exact (List.Perm.cons _ (List.Perm.cons _ (.swap _ _ _))).trans ((List.Perm.cons _ (.swap _ _ _)).trans (.swap _ _ _))
theorem Sep.queueDown {w W : World} {a b c : Res} {l : List Res} {ta tb : TP} {x : Th} {p : Nat} (h : Sep w W (queueRes p x.has x.q :: a :: b :: c :: queuesOf ta ++ (queuesOf tb ++ l))) : Sep w W (a :: b :: c :: queuesOf (ta ++ (x, p) :: tb) ++ l) := by
  refine h.perm ?_
  unfold queuesOf
  simp only [List.map_append, List.map_cons, List.cons_append, List.append_assoc]
  have h1 : (List.map (fun y : Th × Nat => queueRes y.2 y.1.has y.1.q) ta ++ queueRes p x.has x.q :: (List.map (fun y : Th × Nat => queueRes y.2 y.1.has y.1.q) tb ++ l)).Perm (queueRes p x.has x.q :: (List.map (fun y : Th × Nat => queueRes y.2 y.1.has y.1.q) ta ++ (List.map (fun y : Th × Nat => queueRes y.2 y.1.has y.1.q) tb ++ l))) := List.perm_middle
  refine List.Perm.trans ?_ (List.Perm.cons _ (List.Perm.cons _ (List.Perm.cons _ h1))).symm
  exact ((List.Perm.cons _ (List.Perm.cons _ (.swap _ _ _))).trans ((List.Perm.cons _ (.swap _ _ _)).trans (.swap _ _ _))).symm

theorem getT_some {t : Tab} (hg : Good t) {n : ByteArray} {x : Th} (h : getT t n = some x) : x.name = n ∧ x ∈ t ∧ t = lo t n ++ x :: hi t n := by
  rcases split_sorted hg.sorted n with ⟨y, a, b, c, d⟩ | ⟨a, _, _⟩
  · rw [a] at h; cases h; exact ⟨b, c, d⟩
  · rw [a] at h; cases h
theorem getT_none {t : Tab} (hg : Good t) {n : ByteArray} (h : getT t n = none) : (∀ x ∈ t, x.name ≠ n) ∧ t = lo t n ++ hi t n := by
  rcases split_sorted hg.sorted n with ⟨y, a, b, c, d⟩ | ⟨a, b, c⟩
  · rw [a] at h; cases h
  · exact ⟨b, c⟩

theorem Tryd.zInt : ∀ w, (zeroValue 3).run Tryd.prog w = .ok (.int .i64 0) w := fun w => by kernel_rfl
theorem Tryd.zStr : ∀ w, (zeroValue 9).run Tryd.prog w = .ok (.string ⟨#[]⟩) w := fun w => by kernel_rfl
theorem Tryd.zQp : ∀ w, (zeroValue 57).run Tryd.prog w = .ok (.pointer none) w := fun w => by kernel_rfl

/-- Which modes go together. -/
def Tog (w : World) : Prop := ∀ a b : Nat, a < 3 → b < 3 → w.cell? ⟨0, a * 3 + b, none⟩ = some (.bool (decide (a + b ≤ 2)))
theorem Tog.size {w : World} (h : Tog w) : 0 < w.heap.size := by
  have h := h 0 0 (by omega) (by omega)
  rcases Nat.lt_or_ge 0 w.heap.size with h' | h'
  · exact h'
  · simp [World.cell?, Array.getElem?_eq_none h'] at h
theorem Tog.only {w W : World} (h : Tog w) (ho : Only [] w W) : Tog W := fun a b ha hb => by
  rw [ho.cell h.size (by simp)]; exact h a b ha hb
theorem Tog.of_drop {w W : World} {G : List Nat} (h : Tog w) (ho : Only G w W) (hG : 0 ∉ G) : Tog W := fun a b ha hb => by
  rw [ho.cell h.size hG]; exact h a b ha hb

/-! The functions. -/

set_option maxRecDepth 100000 in
theorem mode_nil (h : Int) (n : ByteArray) (W : World) : Calls Tryd.prog 20 #[.pointer none, .int .i64 h, .string n] W fun e W' => e = .returned (.int .i64 0) ∧ W = W' := by
  go_enter Tryd.func20, Tryd.ntmps20
  go_wp2_with fail
  go_ret
  exact ⟨rfl, rfl⟩

set_option maxRecDepth 100000 in
theorem mode_any {w W : World} {l : List Res} {b : Nat} {t : Tab} (hg : Good t) (h : Int) (n : ByteArray) (hs : Sep w W (tabRes b t :: l)) :
    Calls Tryd.prog 20 #[.pointer (some ⟨b, 0, none⟩), .int .i64 h, .string n] W fun e W' => e = .returned (.int .i64 (modeM t h n)) ∧ W = W' := by
  obtain ⟨⟨⟨mT, mW⟩, tp⟩, hs1, ht⟩ := hs.open
  simp only [tabParts, List.cons_append] at hs1
  have bb := hs1.blk
  have c0 := cell_of_block bb 0 (v := .map (some mT)) rfl
  obtain ⟨oT, bT, hT⟩ := hs1.up1.map
  cases e : getT t n with
  | none =>
    have hm := (getT_none hg e).1
    have lk := mapG_miss strKey Tryd.underlying53 Tryd.underlying9 bT hT (names_miss ht hm) (Tryd.zQp W) false
    have hv : modeM t h n = 0 := by unfold modeM; rw [e]
    rw [hv]
    clear hs hs1 bb bT hT ht hm e hv
    go_enter Tryd.func20, Tryd.ntmps20
    go_wp2_with fail
    go_ret
    exact ⟨rfl, rfl⟩
  | some x =>
    obtain ⟨hxn, hxt, hsp⟩ := getT_some hg e
    obtain ⟨ta, p, tb, rfl, hta, htb⟩ := names_hit ht hsp
    have lk := mapG_look strKey Tryd.underlying53 Tryd.underlying9 bT hT (a := n) (v := p) (by rw [← hxn]; exact names_mem) false
    obtain ⟨⟨r, v⟩, hq, _⟩ := hs1.queueUp.open
    simp only [queueParts, List.cons_append, List.nil_append] at hq
    have p0 := cell_of_block hq.blk 0 (v := .map (some r)) rfl
    obtain ⟨oH, bH, hH⟩ := hq.up1.map
    have lh := modes_look Tryd.underlying58 Tryd.underlying3 Tryd.zInt bH hH (hg.each x hxt).has h
    have hv : modeM t h n = modeL x.has h := by unfold modeM; rw [e]
    rw [hv]
    clear hs hs1 hq bb bT hT bH hH ht e hv hta htb hsp
    go_enter Tryd.func20, Tryd.ntmps20
    go_wp2_with fail
    go_ret
    exact ⟨rfl, rfl⟩

set_option maxRecDepth 100000 in
theorem waits_nil (h : Int) (W : World) : Calls Tryd.prog 18 #[.pointer none, .int .i64 h] W fun e W' => e = .returned (.tuple #[.string ⟨#[]⟩, .bool false]) ∧ W = W' := by
  go_enter Tryd.func18, Tryd.ntmps18
  go_wp2_with fail
  go_ret2
  exact ⟨rfl, rfl⟩

set_option maxRecDepth 100000 in
theorem waits_any {w W : World} {l : List Res} {b : Nat} {t : Tab} (hg : Good t) (h : Int) (hs : Sep w W (tabRes b t :: l)) :
    Calls Tryd.prog 18 #[.pointer (some ⟨b, 0, none⟩), .int .i64 h] W fun e W' => e = .returned (.tuple #[.string ((waitsM t h).getD ⟨#[]⟩), .bool (waitsM t h).isSome]) ∧ W = W' := by
  obtain ⟨⟨⟨mT, mW⟩, tp⟩, hs1, ht⟩ := hs.open
  simp only [tabParts, List.cons_append] at hs1
  have bb := hs1.blk
  have c1 := cell_of_block bb 1 (v := .map (some mW)) rfl
  obtain ⟨oW, bW, hW⟩ := hs1.up2.map
  have lk := waits_look Tryd.underlying54 Tryd.underlying3 Tryd.zStr bW hW hg h
  clear hs hs1 bb bW hW ht
  go_enter Tryd.func18, Tryd.ntmps18
  go_wp2_with fail
  go_ret2
  exact ⟨rfl, rfl⟩

set_option maxRecDepth 100000 in
theorem new_any {w W : World} {l : List Res} (hs : Sep w W l) :
    Calls Tryd.prog 10 #[] W fun e W' => ∃ b, e = .returned (.pointer (some ⟨b, 0, none⟩)) ∧ Sep w W' (tabRes b [] :: l) := by
  have h1 := hs.mapNew mStr mPtr 0
  have h2 := h1.mapNew mInt mStr 0
  have h3 := h2.alloc #[.map (some W.heap.size), .map (some ((W.alloc (.map #[] 0)).heap.size))] 56
  have h4 := Sep.close (ps := tabParts _ []) (Q := fun x => x.2.map Prod.fst = []) ((W.heap.size, (W.alloc (.map #[] 0)).heap.size), []) (by simpa [tabParts, queuesOf, namesOf, waitsL] using h3.perm (List.Perm.cons _ (.swap _ _ _))) rfl
  have hmm := @run_makeMap Tryd.prog
  have HS := Lib.hid h4
  clear hs h1 h2 h3 h4
  go_enter Tryd.func10, Tryd.ntmps10
  go_wp2_with fail
  go_ret
  exact ⟨_, rfl, HS.out⟩

end Go.Proofs.YtipfjjcokajjjaaDoor
