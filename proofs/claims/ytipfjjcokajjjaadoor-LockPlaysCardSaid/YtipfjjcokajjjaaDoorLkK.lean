/-
  What is proved here: slices.Sorted(maps.Keys(m)) at the maps of package lock; (*lock.Table).Things.
  No condition: each lemma names its own.
-/
import Derived.Test.YtipfjjcokajjjaaDoorIter
import Derived.Test.YtipfjjcokajjjaaDoorMapI
import Derived.Test.YtipfjjcokajjjaaDoorLkF
set_option linter.unusedVariables false
set_option linter.unusedSimpArgs false
namespace Go.Proofs.YtipfjjcokajjjaaDoor
open Go.RowKit Go.Maps Go.Sort Go.Shelf

theorem sortsI_any (m : Nat) : AnyZI.SortsIn Tryd.prog Tryd.sortedA_ren Fence.wide m :=
  ⟨fun blk off cap ss W hH hblk hsz => callsIn_wide.2 (AnyM.slices_Sort_int Tryd.sortA blk off cap ss W hH hblk hsz),
   fun p cap W => callsIn_wide.2 (AnyM.slices_Sort_int_none Tryd.sortA p cap W)⟩
theorem sortsS_any (m : Nat) : AnyZ.SortsIn Tryd.prog Tryd.sortedS_ren Fence.wide m :=
  ⟨fun blk off cap ss W hH hblk hsz => callsIn_wide.2 (AnyM.slices_Sort_string Tryd.sortS blk off cap ss W hH hblk hsz),
   fun p cap W => callsIn_wide.2 (AnyM.slices_Sort_string_none Tryd.sortS p cap W)⟩

theorem keysA_any (mb : Option Nat) (W : World) : Calls Tryd.prog 40 #[.map mb] W fun e w' => e = .returned (.func (.func 48) #[] #[.pointer (some ⟨W.heap.size, 0, none⟩)]) ∧ w' = W.alloc (.cells #[.map mb] 58) :=
  (callsIn_wide (n := 5)).1 (AnyZI.keys_in Tryd.keysA Fence.wide 5 trivial rfl mb W)
theorem keysS_any (mb : Option Nat) (W : World) : Calls Tryd.prog 43 #[.map mb] W fun e w' => e = .returned (.func (.func 51) #[] #[.pointer (some ⟨W.heap.size, 0, none⟩)]) ∧ w' = W.alloc (.cells #[.map mb] 53) :=
  (callsIn_wide (n := 5)).1 (AnyZ.keys_in Tryd.keysS Fence.wide 5 trivial rfl mb W)

/-- How such a map reads for the library's contract on maps.Keys. -/
theorem mapIs_owns {α β : Type} {mk : α → Value} {mv : β → Value} {ks : List (α × β)} {o : Obj} {P : Program} {W : World} {k : TypeId} {b : Nat} (lk : α → Lit) (hlk : ∀ x ∈ ks, keyOf P k (mk x.1) = some (lk x.1)) (h : MapIs mk mv ks o) (hb : W.heap[b]? = some o) (hl : ks.length ≤ maxLen) :
    ∃ L : List (Lit × DataW Unit), W.ownsMap P k anyElem b ks.length (.map L) ∧ (L.map Prod.fst).Perm (ks.map (fun x => lk x.1)) ∧ L.length = ks.length := by
  obtain ⟨es, clock, rfl, hp, hs⟩ := h
  have hsz : es.size = ks.length := by have := hp.length_eq; simpa using this
  have hkey : ∀ e ∈ es.toList, ∃ x ∈ ks, mk x.1 = e.key := by
    intro e he
    obtain ⟨x, hx, h1⟩ := List.mem_map.1 (hp.mem_iff.1 (List.mem_map.2 ⟨e, he, rfl⟩))
    exact ⟨x, hx, congrArg Prod.fst h1⟩
  have hrd : ∀ e ∈ es.toList, ∃ x ∈ ks, mk x.1 = e.key ∧ WideElems.rd P k anyElem e = some (lk x.1, .nil) := by
    intro e he
    obtain ⟨x, hx, h1⟩ := hkey e he
    refine ⟨x, hx, h1, WideElems.rd_mk (yv := (.nil, [])) ?_ rfl⟩
    rw [← h1]
    exact hlk x hx
  have hall : ((es.toList.map (WideElems.rg P k (anyElem))).map Prod.fst).Perm (ks.map (fun x => lk x.1)) := by
    have h1 : (es.toList.map (WideElems.rg P k anyElem)).map Prod.fst = (es.toList.map kvOf).map (fun y => (keyOf P k y.1).getD (.bool false)) := by
      rw [List.map_map, List.map_map]
      refine List.map_congr_left fun e he => ?_
      obtain ⟨x, hx, h1, h2⟩ := hrd e he
      show (WideElems.rg P k anyElem e).1 = (keyOf P k e.key).getD (.bool false)
      rw [WideElems.rg_of h2, ← h1, hlk x hx]; rfl
    rw [h1]
    refine (hp.map _).trans ?_
    rw [List.map_map]
    refine List.Perm.of_eq (List.map_congr_left fun x hx => ?_)
    show (keyOf P k (mk x.1)).getD (.bool false) = lk x.1
    rw [hlk x hx]; rfl
  refine ⟨_, ⟨es, clock, hb, ⟨by rw [hsz]; exact hl, hs, ?_⟩, by rw [hsz]; exact Nat.le_refl _, rfl⟩, ?_, ?_⟩
  · intro e he
    obtain ⟨x, _, _, h2⟩ := hrd e he
    exact ⟨_, h2⟩
  · exact ((sorted_perm _).map _).trans hall
  · rw [length_sorted, List.length_map]; simpa using hsz

/-- The numbers by rising order. -/
def sortI (ks : List Int) : List Int := ks.mergeSort (fun x y => decide (x ≤ y))
theorem sortI_rising {ks : List Int} (h : ks.Nodup) : Rising (sortI ks) := by
  have tr : ∀ a b c : Int, leI a b = true → leI b c = true → leI a c = true := fun a b c h1 h2 => by simp only [leI, decide_eq_true_eq] at *; exact Int.le_trans h1 h2
  have to : ∀ a b : Int, (leI a b || leI b a) = true := fun a b => by simp only [leI, Bool.or_eq_true, decide_eq_true_eq]; exact Int.le_total a b
  have hp := List.pairwise_mergeSort tr to ks
  have hn : (sortI ks).Nodup := (List.mergeSort_perm ks _).nodup_iff.2 h
  refine List.Pairwise.imp₂ (R := fun a b => leI a b = true) (S := fun a b : Int => a ≠ b) (fun a b h1 h2 => ?_) hp hn
  simp only [leI, decide_eq_true_eq] at h1
  omega
theorem sortI_mem (ks : List Int) (y : Int) : y ∈ sortI ks ↔ y ∈ ks := (List.mergeSort_perm ks _).mem_iff

def intCells (l : List Int) : List Value := l.map (Value.int .i64)
def strCells (l : List ByteArray) : List Value := l.map Value.string

theorem row_made {W V w' : World} {v : Value} {e : TypeId} {n : Nat} {xs : List Value} {l : List Res} {w : World} (hs : Sep w W l) (hV : W.heap.size ≤ V.heap.size) (hVo : Only [] W V)
    (hrow : w'.ownsRow V.heap.size e 1 v n xs) (hb : Below V.heap.size V w') : ∃ p q, v = .slice p n q ∧ Sep w w' (rowRes e 1 (.slice p n q) n xs :: l) := by
  have hrow0 : w'.ownsRow 0 e 1 v n xs := ownsRow_base_a hrow (Nat.zero_le _)
  have ho : Only [] W w' := hVo.trans (Only.of_below hb) (Within.nil _ _)
  rcases hrow.2 with ⟨rfl, hz⟩ | ⟨gb, cap, cur, rfl, hbase, hgb, r1, r2, r3, r4⟩
  · refine ⟨none, 0, by rw [hz], ?_⟩
    rw [hz] at hrow0 ⊢
    exact hs.made (R := rowRes e 1 _ _ _) (F := []) ⟨hrow0, by simp [Value.ownBlock]⟩ ho (fun k hk => by simp at hk)
  · refine ⟨_, _, rfl, ?_⟩
    exact hs.made (R := rowRes e 1 _ _ _) (F := [gb]) ⟨hrow0, by simp [Value.ownBlock]⟩ ho (fun k hk => by
      right
      simp only [List.mem_singleton] at hk
      omega)

theorem sortedA_any {w W : World} {l : List Res} {b : Nat} {ks : List (Int × Int)} {o : Obj} (hs : Sep w W l) (hb : W.heap[b]? = some o) (h : MapIs mInt mInt ks o) (hw : ∀ x ∈ ks, (Lit.int .i64 x.1).wf = true) (hl : ks.length ≤ 100000) :
    Calls Tryd.prog 39 #[.func (.func 48) #[] #[.pointer (some ⟨W.heap.size, 0, none⟩)]] (W.alloc (.cells #[.map (some b)] 58)) fun e w' =>
      ∃ p q, e = .returned (.slice p ks.length q) ∧ Sep w w' (rowRes 3 1 (.slice p ks.length q) ks.length (intCells (sortI (ks.map Prod.fst))) :: l) := by
  obtain ⟨L, hown, hperm, hsize⟩ := mapIs_owns (P := Tryd.prog) (k := 3) (fun a : Int => Lit.int .i64 a) (fun x hx => by simp [keyOf, Tryd.underlying3, mapKey, hw x hx]) h hb (by unfold maxLen; omega)
  have hms : Maps.size (DataW.map L : DataW Unit) = ks.length := hsize
  have hmax : Maps.size (DataW.map L : DataW Unit) ≤ maxLen := by rw [hms]; unfold maxLen; omega
  have hbytes : Maps.size (DataW.map L : DataW Unit) * 8 ≤ 140737488355328 := by rw [hms]; omega
  have hseq : SeqGives Fence.wide 2 Tryd.prog 48 #[.pointer (some ⟨W.heap.size, 0, none⟩)] encZ (fun ss => ss.Perm (intKeys (DataW.map L : DataW Unit))) (Maps.size (DataW.map L : DataW Unit)) (W.alloc (.cells #[.map (some b)] 58)) :=
    AnyZI.keys_gives (ρ := Tryd.keysA_ren) { Tryd.keysA with } Fence.wide _ trivial rfl (by omega) W.heap.size b ks.length (DataW.map L) _ (by simp) (by simp) (hown.alloc _)
  have cS := AnyZI.sorted_in Tryd.sortedA Fence.wide 5 trivial trivial trivial trivial rfl (by omega) (sortsI_any _) (enters_of Tryd.func47 (by kernel_rfl) rfl) 48 #[.pointer (some ⟨W.heap.size, 0, none⟩)] trivial (enters_of Tryd.func48 (by kernel_rfl) rfl) _ _ hmax hbytes _ hseq
  change CallsIn _ _ Tryd.prog 39 _ _ _ at cS
  refine ((callsIn_wide (n := 5)).1 cS).mono ?_
  rintro e w' ⟨v, ss, rfl, hS, hrow, hnil, hbe⟩
  have hp : ss.Perm (ks.map Prod.fst) := by
    refine List.Perm.trans hS ?_
    have h1 : intKeys (DataW.map L : DataW Unit) = (L.map Prod.fst).map Go.intOf := by show L.map (fun p => Go.intOf p.1) = _; rw [List.map_map]; rfl
    rw [h1]
    refine (hperm.map _).trans ?_
    rw [List.map_map]
    exact List.Perm.refl _
  have hlen : ss.length = ks.length := by rw [hp.length_eq, List.length_map]
  have hso : ss.mergeSort (fun x y => decide (x ≤ y)) = sortI (ks.map Prod.fst) := mergeSort_of_perm_i hp
  rw [hso, hlen] at hrow
  obtain ⟨p, q, rfl, h⟩ := row_made (W := W) (e := 3) hs (by simp) (Only.alloc _ _ _) hrow hbe
  exact ⟨p, q, rfl, h⟩

theorem sortedS_any {w W : World} {l : List Res} {b : Nat} {ks : List (ByteArray × Nat)} {o : Obj} (hs : Sep w W l) (hb : W.heap[b]? = some o) (h : MapIs mStr mPtr ks o) (hw : ∀ x ∈ ks, x.1.size ≤ 64) (hl : ks.length ≤ 100000) (hso : ks.Pairwise (fun a b => ltB a.1 b.1)) :
    Calls Tryd.prog 42 #[.func (.func 51) #[] #[.pointer (some ⟨W.heap.size, 0, none⟩)]] (W.alloc (.cells #[.map (some b)] 53)) fun e w' =>
      ∃ p q, e = .returned (.slice p ks.length q) ∧ Sep w w' (rowRes 9 1 (.slice p ks.length q) ks.length (strCells (ks.map Prod.fst)) :: l) := by
  obtain ⟨L, hown, hperm, hsize⟩ := mapIs_owns (P := Tryd.prog) (k := 9) (fun a : ByteArray => Lit.string a.data.toList) (fun x hx => by
    have h1 := hw x hx
    have h2 : x.1.size ≤ maxLen := by unfold maxLen; omega
    simp [keyOf, Tryd.underlying9, mapKey, Lit.wf]
    exact h2) h hb (by unfold maxLen; omega)
  have hms : Maps.size (DataW.map L : DataW Unit) = ks.length := hsize
  have hmax : Maps.size (DataW.map L : DataW Unit) ≤ maxLen := by rw [hms]; unfold maxLen; omega
  have hbytes : Maps.size (DataW.map L : DataW Unit) * 16 ≤ 140737488355328 := by rw [hms]; omega
  have hseq : SeqGives Fence.wide 2 Tryd.prog 51 #[.pointer (some ⟨W.heap.size, 0, none⟩)] encStr (fun ss => ss.Perm (strKeys (DataW.map L : DataW Unit))) (Maps.size (DataW.map L : DataW Unit)) (W.alloc (.cells #[.map (some b)] 53)) :=
    AnyZ.keys_gives (ρ := Tryd.keysS_ren) { Tryd.keysS with } Fence.wide _ trivial rfl (by omega) W.heap.size b ks.length (DataW.map L) _ (by simp) (by simp) (hown.alloc _)
  have cS := AnyZ.sorted_in Tryd.sortedS Fence.wide 5 trivial trivial trivial trivial rfl (by omega) (sortsS_any _) (enters_of Tryd.func50 (by kernel_rfl) rfl) 51 #[.pointer (some ⟨W.heap.size, 0, none⟩)] trivial (enters_of Tryd.func51 (by kernel_rfl) rfl) _ _ hmax hbytes _ hseq
  change CallsIn _ _ Tryd.prog 42 _ _ _ at cS
  refine ((callsIn_wide (n := 5)).1 cS).mono ?_
  rintro e w' ⟨v, ss, rfl, hS, hrow, hnil, hbe⟩
  have hp : ss.Perm (ks.map (fun x => x.1.data.toList)) := by
    refine List.Perm.trans hS ?_
    have h1 : strKeys (DataW.map L : DataW Unit) = (L.map Prod.fst).map strOf := by show L.map (fun p => strOf p.1) = _; rw [List.map_map]; rfl
    rw [h1]
    refine (hperm.map _).trans ?_
    rw [List.map_map]
    exact List.Perm.refl _
  have hlen : ss.length = ks.length := by rw [hp.length_eq, List.length_map]
  have hsrt : ss.mergeSort (fun x y => decide (x ≤ y)) = ks.map (fun x => x.1.data.toList) := by
    have h1 : ss.mergeSort leB = (ks.map (fun x => x.1.data.toList)).mergeSort leB := mergeSort_of_perm hp
    refine h1.trans (List.mergeSort_of_pairwise ?_)
    refine List.pairwise_map.2 (hso.imp ?_)
    intro a b hab
    simp only [leB, decide_eq_true_eq]
    exact List.le_of_lt hab
  have hcells : (ks.map (fun x => x.1.data.toList)).map encStr = strCells (ks.map Prod.fst) := by
    unfold strCells
    rw [List.map_map, List.map_map]
    refine List.map_congr_left fun x _ => ?_
    obtain ⟨⟨a⟩, p⟩ := x
    simp [encStr]
  rw [hsrt, hlen, hcells] at hrow
  obtain ⟨p, q, rfl, h⟩ := row_made (W := W) (e := 9) hs (by simp) (Only.alloc _ _ _) hrow hbe
  exact ⟨p, q, rfl, h⟩

set_option maxRecDepth 100000 in
theorem things_nil (W : World) : Calls Tryd.prog 25 #[.pointer none] W fun e W' => e = .returned (.slice none 0 0) ∧ W = W' := by
  go_enter Tryd.func25, Tryd.ntmps25
  go_wp2_with fail
  go_ret
  exact ⟨rfl, rfl⟩

theorem names_fst {tp : TP} {t : Tab} (ht : tp.map Prod.fst = t) : (namesOf tp).map Prod.fst = t.map (·.name) := by
  subst ht
  unfold namesOf
  rw [List.map_map, List.map_map]
  rfl

set_option maxRecDepth 100000 in
theorem things_any {w W : World} {l : List Res} {b : Nat} {t : Tab} (hg : Good t) (hs : Sep w W (tabRes b t :: l)) :
    Calls Tryd.prog 25 #[.pointer (some ⟨b, 0, none⟩)] W fun e W' => ∃ p q, e = .returned (.slice p t.length q) ∧ Sep w W' (rowRes 9 1 (.slice p t.length q) t.length (strCells (t.map (·.name))) :: tabRes b t :: l) := by
  obtain ⟨⟨⟨mT, mW⟩, tp⟩, hs1, ht⟩ := hs.open
  simp only [tabParts, List.cons_append] at hs1
  have bb := hs1.blk
  have c0 := cell_of_block bb 0 (v := .map (some mT)) rfl
  obtain ⟨oT, bT, hT⟩ := hs1.up1.map
  have hfst := names_fst ht
  have hlen : (namesOf tp).length = t.length := by have := congrArg List.length hfst; simpa using this
  have hmem : ∀ x ∈ namesOf tp, ∃ y ∈ t, y.name = x.1 := by
    intro x hx
    have : x.1 ∈ t.map (·.name) := by rw [← hfst]; exact List.mem_map.2 ⟨x, hx, rfl⟩
    obtain ⟨y, hy, e⟩ := List.mem_map.1 this
    exact ⟨y, hy, e⟩
  have hso : (namesOf tp).Pairwise (fun a b => ltB a.1 b.1) := by
    have : ((namesOf tp).map Prod.fst).Pairwise ltB := by rw [hfst]; exact List.pairwise_map.2 hg.sorted
    exact List.pairwise_map.1 this
  have hsrt := sortedS_any hs bT hT (fun x hx => by obtain ⟨y, hy, e⟩ := hmem x hx; rw [← e]; exact (hg.each y hy).name) (by rw [hlen]; have := hg.len; omega) hso
  rw [hlen, hfst] at hsrt
  have HC := Lib.hid hsrt
  clear hs hs1 bb bT hT ht hfst hlen hmem hso hsrt
  go_enter Tryd.func25, Tryd.ntmps25
  go_wp2_with (first | (go_at_call 43; refine (keysS_any _ _).mono ?_; rintro e w2 ⟨rfl, rfl⟩) | (go_at_call 42; refine HC.out.mono ?_; rintro e w3 ⟨p, q, rfl, hs3⟩))
  have HS3 := Lib.hid hs3; clear hs3
  go_ret
  exact ⟨p, q, rfl, HS3.out⟩

end Go.Proofs.YtipfjjcokajjjaaDoor
