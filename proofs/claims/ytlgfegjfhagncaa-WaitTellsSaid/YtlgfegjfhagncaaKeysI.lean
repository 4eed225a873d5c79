/-
  What is proved here: slices.Sorted(maps.Keys(m)) at the two map types of package wait: a new slice of the keys, by rising numbers.
  No condition: each lemma names its own.
-/
import Derived.Test.YtlgfegjfhagncaaIter
import Derived.Test.YtlgfegjfhagncaaMapI
import Derived.Test.YtlgfegjfhagncaaRef13
set_option linter.unusedSimpArgs false
set_option linter.unusedVariables false
namespace Go.Proofs.Ytlgfegjfhagncaa
open Go.RowKit Go.Maps Go.Sort Go.Shelf

theorem sorts_any (m : Nat) : AnyZI.SortsIn Try.prog Try.sortedA_ren Fence.wide m :=
  ⟨fun blk off cap ss W hH hblk hsz => callsIn_wide.2 (AnyM.slices_Sort_int Try.sortA blk off cap ss W hH hblk hsz),
   fun p cap W => callsIn_wide.2 (AnyM.slices_Sort_int_none Try.sortA p cap W)⟩

theorem keysA_any (mb : Option Nat) (W : World) : Calls Try.prog 24 #[.map mb] W fun e w' => e = .returned (.func (.func 30) #[] #[.pointer (some ⟨W.heap.size, 0, none⟩)]) ∧ w' = W.alloc (.cells #[.map mb] 46) :=
  (callsIn_wide (n := 5)).1 (AnyZI.keys_in Try.keysA Fence.wide 5 trivial rfl mb W)
theorem keysB_any (mb : Option Nat) (W : World) : Calls Try.prog 22 #[.map mb] W fun e w' => e = .returned (.func (.func 27) #[] #[.pointer (some ⟨W.heap.size, 0, none⟩)]) ∧ w' = W.alloc (.cells #[.map mb] 37) :=
  (callsIn_wide (n := 5)).1 (AnyZI.keys_in Try.keysB Fence.wide 5 trivial rfl mb W)

/-- The numbers by rising order. -/
def sortI (ks : List Int) : List Int := ks.mergeSort (fun x y => decide (x ≤ y))

theorem row_of_sorted {W V w' : World} {v : Value} {ss ks : List Int} (hV : W.heap.size ≤ V.heap.size) (hVo : Only [] W V) (hp : ss.Perm ks)
    (hrow : w'.ownsRow V.heap.size 3 1 v ss.length ((ss.mergeSort (fun x y => decide (x ≤ y))).map encZ)) (hb : Below V.heap.size V w') :
    ∃ p q, v = .slice p ks.length q ∧ Sep W w' [rowRes 3 1 (.slice p ks.length q) ks.length (intCells (sortI ks))] := by
  have hlen : ss.length = ks.length := hp.length_eq
  have hso : ss.mergeSort (fun x y => decide (x ≤ y)) = sortI ks := mergeSort_of_perm_i hp
  rw [hso, hlen] at hrow
  have hrow0 : w'.ownsRow 0 3 1 v ks.length (intCells (sortI ks)) := ownsRow_base_a hrow (Nat.zero_le _)
  have ho : Only [] W w' := hVo.trans (Only.of_below hb) (Within.nil _ _)
  rcases hrow.2 with ⟨rfl, hz⟩ | ⟨gb, cap, cur, rfl, hbase, hgb, r1, r2, r3, r4⟩
  · refine ⟨none, 0, ?_, ?_⟩
    · rw [hz]
    · rw [hz] at hrow0 ⊢
      exact (Sep.nil W).made (R := rowRes 3 1 _ _ _) (F := []) ⟨hrow0, by simp [Value.ownBlock]⟩ ho (fun k hk => by simp at hk)
  · refine ⟨_, _, rfl, ?_⟩
    exact (Sep.nil W).made (R := rowRes 3 1 _ _ _) (F := [gb]) ⟨hrow0, by simp [Value.ownBlock]⟩ ho (fun k hk => by
      right
      simp only [List.mem_singleton] at hk
      omega)

theorem sortedA_any {W : World} {b : Nat} {ks : List (Int × Value)} (hb : W.heap[b]? = some (mapObj ks)) (hnd : (ks.map Prod.fst).Nodup) (hw : ∀ x ∈ ks, (Lit.int .i64 x.1).wf = true) (hl : ks.length ≤ 100000) :
    Calls Try.prog 21 #[.func (.func 30) #[] #[.pointer (some ⟨W.heap.size, 0, none⟩)]] (W.alloc (.cells #[.map (some b)] 46)) fun e w' =>
      ∃ p q, e = .returned (.slice p ks.length q) ∧ Sep W w' [rowRes 3 1 (.slice p ks.length q) ks.length (intCells (sortI (ks.map Prod.fst)))] := by
  obtain ⟨D, hown, hperm, hsize⟩ := map_owns (P := Try.prog) (k := 3) Try.underlying3 hb hnd hw (by unfold maxLen; omega)
  have hmax : Maps.size D ≤ maxLen := by rw [hsize]; unfold maxLen; omega
  have hbytes : Maps.size D * 8 ≤ 140737488355328 := by rw [hsize]; omega
  have hseq : SeqGives Fence.wide 2 Try.prog 30 #[.pointer (some ⟨W.heap.size, 0, none⟩)] encZ (fun ss => ss.Perm (intKeys D)) (Maps.size D) (W.alloc (.cells #[.map (some b)] 46)) :=
    AnyZI.keys_gives (ρ := Try.keysA_ren) { Try.keysA with } Fence.wide _ trivial rfl (by omega) W.heap.size b ks.length D _ (by simp) (by simp) (hown.alloc _)
  have cS := AnyZI.sorted_in Try.sortedA Fence.wide 5 trivial trivial trivial trivial rfl (by omega) (sorts_any _) (enters_of Try.func26 (by kernel_rfl) rfl) 30 #[.pointer (some ⟨W.heap.size, 0, none⟩)] trivial (enters_of Try.func30 (by kernel_rfl) rfl) _ _ hmax hbytes _ hseq
  change CallsIn _ _ Try.prog 21 _ _ _ at cS
  refine ((callsIn_wide (n := 5)).1 cS).mono ?_
  rintro e w' ⟨v, ss, rfl, hS, hrow, hnil, hbe⟩
  obtain ⟨p, q, rfl, h⟩ := row_of_sorted (W := W) (ks := ks.map Prod.fst) (by simp) (Only.alloc _ _ _) (hS.trans hperm) hrow hbe
  rw [List.length_map] at h
  exact ⟨p, q, by rw [List.length_map], h⟩

theorem sortedB_any {W : World} {b : Nat} {ks : List (Int × Value)} (hb : W.heap[b]? = some (mapObj ks)) (hnd : (ks.map Prod.fst).Nodup) (hw : ∀ x ∈ ks, (Lit.int .i64 x.1).wf = true) (hl : ks.length ≤ 100000) :
    Calls Try.prog 21 #[.func (.func 27) #[] #[.pointer (some ⟨W.heap.size, 0, none⟩)]] (W.alloc (.cells #[.map (some b)] 37)) fun e w' =>
      ∃ p q, e = .returned (.slice p ks.length q) ∧ Sep W w' [rowRes 3 1 (.slice p ks.length q) ks.length (intCells (sortI (ks.map Prod.fst)))] := by
  obtain ⟨D, hown, hperm, hsize⟩ := map_owns (P := Try.prog) (k := 3) Try.underlying3 hb hnd hw (by unfold maxLen; omega)
  have hmax : Maps.size D ≤ maxLen := by rw [hsize]; unfold maxLen; omega
  have hbytes : Maps.size D * 8 ≤ 140737488355328 := by rw [hsize]; omega
  have hseq : SeqGives Fence.wide 2 Try.prog 27 #[.pointer (some ⟨W.heap.size, 0, none⟩)] encZ (fun ss => ss.Perm (intKeys D)) (Maps.size D) (W.alloc (.cells #[.map (some b)] 37)) :=
    AnyZI.keys_gives (ρ := Try.keysB_ren) { Try.keysB with } Fence.wide _ trivial rfl (by omega) W.heap.size b ks.length D _ (by simp) (by simp) (hown.alloc _)
  have cS := AnyZI.sorted_in Try.sortedA Fence.wide 5 trivial trivial trivial trivial rfl (by omega) (sorts_any _) (enters_of Try.func26 (by kernel_rfl) rfl) 27 #[.pointer (some ⟨W.heap.size, 0, none⟩)] trivial (enters_of Try.func27 (by kernel_rfl) rfl) _ _ hmax hbytes _ hseq
  change CallsIn _ _ Try.prog 21 _ _ _ at cS
  refine ((callsIn_wide (n := 5)).1 cS).mono ?_
  rintro e w' ⟨v, ss, rfl, hS, hrow, hnil, hbe⟩
  obtain ⟨p, q, rfl, h⟩ := row_of_sorted (W := W) (ks := ks.map Prod.fst) (by simp) (Only.alloc _ _ _) (hS.trans hperm) hrow hbe
  rw [List.length_map] at h
  exact ⟨p, q, by rw [List.length_map], h⟩

/-- Sorted: rising, and the same numbers. -/
theorem sortI_rising {ks : List Int} (h : ks.Nodup) : Rising (sortI ks) := by
  have tr : ∀ a b c : Int, leI a b = true → leI b c = true → leI a c = true := fun a b c h1 h2 => by simp only [leI, decide_eq_true_eq] at *; exact Int.le_trans h1 h2
  have to : ∀ a b : Int, (leI a b || leI b a) = true := fun a b => by simp only [leI, Bool.or_eq_true, decide_eq_true_eq]; exact Int.le_total a b
  have hp := List.pairwise_mergeSort tr to ks
  have hn : (sortI ks).Nodup := (List.mergeSort_perm ks _).nodup_iff.2 h
  refine List.Pairwise.imp₂ (R := fun a b => leI a b = true) (S := fun a b : Int => a ≠ b) (fun a b h1 h2 => ?_) hp hn
  simp only [leI, decide_eq_true_eq] at h1
  omega
theorem sortI_mem (ks : List Int) (y : Int) : y ∈ sortI ks ↔ y ∈ ks := (List.mergeSort_perm ks _).mem_iff

end Go.Proofs.Ytlgfegjfhagncaa
