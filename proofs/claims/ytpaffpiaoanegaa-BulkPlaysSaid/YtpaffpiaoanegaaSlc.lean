/-
  What is proved here: slices.Insert (of one element), slices.Delete (of one element), slices.Clone at []tree.Entry and []*tree.node, for rows that the call owns.
  No condition: each lemma names its own.
-/
import Derived.Test.YtpaffpiaoanegaaRowZ
import Derived.WalkMore
set_option linter.unusedVariables false
set_option linter.unusedSimpArgs false
namespace Go.Proofs.Ytpaffpiaoanegaa
open Go.RowKit Go.Lib

theorem Try.infoEnt : (Try.prog.info? 31).map (fun i => (i.zero, i.size, i.bytes)) = some (some (.agg #[.string ⟨#[]⟩, .int .i64 0]), 2, 24) := by kernel_rfl
theorem Try.infoNode : (Try.prog.info? 84).map (fun i => (i.zero, i.size, i.bytes)) = some (some (.pointer none), 1, 8) := by kernel_rfl

set_option maxHeartbeats 1000000 in
set_option maxRecDepth 100000 in
/-- slices.Insert(row, i, x). -/
theorem ins_ent {w W : World} {l : List Res} {v : Value} {n : Nat} {xs : List Value} (i : Nat) (vs : Array Value) (hvs : vs.size = 2) (h1v : ∀ u ∈ vs.toList, u.oneCell' = true) (h1x : ∀ u ∈ xs, u.oneCell' = true) (hi : i ≤ n) (hn : n ≤ 100000)
    (hs : Sep w W (rowRes 31 2 v n xs :: l)) :
    Calls Try.prog 46 #[v, .int .i64 i, .slice (some ⟨W.heap.size, 0, none⟩) 1 1] (W.alloc (.cells vs 31)) fun r W' =>
      ∃ p q, r = .returned (.slice p (n + 1) q) ∧ Sep w W' (rowRes 31 2 (.slice p (n + 1) q) (n + 1) (xs.take (i * 2) ++ vs.toList ++ xs.drop (i * 2)) :: l) := by
  obtain ⟨ie, IE⟩ := info_of Try.infoEnt
  have hrow := hs.row
  have hxl := hrow.1
  by_cases hin : i = n
  · subst hin
    obtain ⟨p, q, rfl⟩ := ownsRow_slice hrow
    have HS := Lib.hid hs
    have HV := Lib.hid h1v
    have b1 : (0 : Int) ≤ (i : Int) := by omega
    have b2 : (i : Int) ≤ 100000 := by omega
    rcases hrow.2 with ⟨h1, h2⟩ | ⟨g, cap, cur, hv, _, _, h3, _⟩
    · cases h1
      clear h2
      rw [show ((0 : Nat) : Int) = 0 from rfl]
      have HX := Lib.hid hxl
      clear hs hrow h1v h1x hxl
      go_enter Try.func46, Try.ntmps46
      go_wp2_with (at_builtin; go_must (refine wpList_append_sep (w := w) (e := 31) rfl (.tmp 23) (.tmp 24) 32 rfl ie _ 2 24 Try.underlying32 IE.out rfl (by decide) _ 0 xs rfl rfl rfl hvs HV.out HS.out (by unfold maxLen; omega) (by omega) ?_))
      intro p2 q2 w2 hs2
      have hs3 : Sep w w2 (rowRes 31 2 (.slice p2 (0 + 1) q2) (0 + 1) (xs.take (0 * 2) ++ vs.toList ++ xs.drop (0 * 2)) :: l) := by
        have hx0 : xs = [] := List.eq_nil_of_length_eq_zero (by rw [HX.out])
        subst hx0
        simpa using hs2
      have HS3 := Lib.hid hs3; clear hs3 hs2 HS HX
      go_wp2_with fail
      go_ret
      exact ⟨_, _, rfl, HS3.out⟩
    · cases hv
      have HX := Lib.hid hxl
      clear hs hrow h1v h1x hxl
      go_enter Try.func46, Try.ntmps46
      go_wp2_with (at_builtin; go_must (refine wpList_append_sep (w := w) (e := 31) rfl (.tmp 23) (.tmp 24) 32 rfl ie _ 2 24 Try.underlying32 IE.out rfl (by decide) _ i xs rfl rfl rfl hvs HV.out HS.out (by unfold maxLen; omega) (by omega) ?_))
      all_goals
        intro p2 q2 w2 hs2
        have hs3 : Sep w w2 (rowRes 31 2 (.slice p2 (i + 1) q2) (i + 1) (xs.take (i * 2) ++ vs.toList ++ xs.drop (i * 2)) :: l) := by
          rw [List.take_of_length_le (l := xs) (by have := HX.out; omega), List.drop_of_length_le (l := xs) (by have := HX.out; omega), List.append_nil]
          exact hs2
        have HS3 := Lib.hid hs3; clear hs3 hs2 HS HX
        go_wp2_with fail
        go_ret
        exact ⟨_, _, rfl, HS3.out⟩
  · rcases hrow.2 with ⟨h1, h2⟩ | ⟨g, cap, cur, hv, _, hg, hnc, hcm, hcs, htake⟩
    · exfalso; omega
    · subst hv
      have hgW := lt_of_block hg
      have hgn : g ≠ W.heap.size := by omega
      have hgn' : W.heap.size ≠ g := by omega
      have hlt : i < n := by omega
      have hi0 : ¬ ((i : Int) = (n : Int)) := by omega
      have b1 : (0 : Int) ≤ (i : Int) := by omega
      have b2 : (i : Int) < (n : Int) := by omega
      have b3 : (n : Int) ≤ 100000 := by omega
      have b4 : (n : Int) ≤ (cap : Int) := by omega
      have hcm' : (cap : Int) ≤ 9223372036854775807 := by unfold maxLen at hcm; omega
      have hbV : (W.alloc (.cells vs 31)).heap[W.heap.size]? = some (.cells vs 31 (0, 0)) := heap_alloc_self
      have hbG : (W.alloc (.cells vs 31)).heap[g]? = some (.cells cur 31 (0, 0)) := by rw [heap_alloc_lt hgW]; exact hg
      have hci : ¬ (cap = i) := by omega
      have hin' : i ≤ n := by omega
      have hic : i ≤ cap := by omega
      by_cases hroom : n + 1 ≤ cap
      · have hr1 : ¬ ((cap : Int) < (n : Int) + 1) := by omega
        have hr2 : ¬ (cap = i + 1) := by omega
        have hr3 : i + 1 ≤ n := by omega
        have hw1 : IntKind.i64.wrap ((i : Int) + 1) = (i : Int) + 1 := IntWalk.i64_in _ (by omega)
        have mixed : Try.prog.follows .mixedOrders = true := by kernel_rfl
        have b5 : (0 : Int) ≤ (i : Int) + 1 := by omega
        have b6 : (i : Int) ≤ (n : Int) + 1 := by omega
        have b7 : (i : Int) + 1 ≤ (n : Int) + 1 := by omega
        have b8 : i ≤ n + 1 := by omega
        have hw2 : IntKind.i64.wrap ((n : Int) + 1) = (n : Int) + 1 := IntWalk.i64_in _ (by omega)
        have hov : ∀ lb cb, (callFunc 59 #[.slice (some ⟨W.heap.size, 0, none⟩) 1 1, .slice (some ⟨g, (i + 1) * 2, none⟩) lb cb]).run Try.prog (W.alloc (.cells vs 31)) = .ok (.value (.bool false)) (W.alloc (.cells vs 31)) := fun lb cb => by
          rw [run_callFunc_extern Try.func59 (by kernel_rfl) (by kernel_rfl) (by kernel_rfl) (e := Extern.SlicesOverlaps.overlaps #[32, 32] #[4]) (by kernel_rfl),
            Lib.run_overlaps_apart (W.alloc (.cells vs 31)) 32 4 31 Try.underlying32 2 ?sz ⟨W.heap.size, 0, none⟩ ⟨g, (i + 1) * 2, none⟩ 1 1 lb cb hgn' 31 31 vs.size cur.size ?s1 ?s2 ?s3 (free_of_block hbV 0) (free_of_block hbV vs.size)]
          case sz => intro w; kernel_rfl
          case s1 => unfold World.shape?; rw [hbV]
          case s2 => unfold World.shape?; rw [hbG]
          case s3 => rw [hcs]; omega
          rfl
        have HOV := Lib.hid hov; clear hov
        have HS := Lib.hid hs
        have HX := Lib.hid htake
        have HL := Lib.hid hxl
        have HG := Lib.hid hbG
        have HV := Lib.hid hbV
        have HC := Lib.hid hcs
        have H1V := Lib.hid h1v
        have H1X := Lib.hid h1x
        have HG0 := Lib.hid hg
        clear hs hrow htake hxl hbG hbV hcs h1v h1x hg
        go_enter Try.func46, Try.ntmps46
        go_wp2_with (simp only [HOV.out])
        obtain ⟨R1, hR1⟩ : ∃ R1 : Array Value, R1 = (cur.toList.take ((i + 1) * 2) ++ xs.drop (i * 2) ++ cur.toList.drop ((i + 1) * 2 + (xs.drop (i * 2)).length)).toArray := ⟨_, rfl⟩
        have HR1 := Lib.hid hR1; clear hR1
        have hcp1 : ∀ ty dc sc dl sl, dl = n - i → sl = n + 1 - i → (Builtin.copy_ #[32, 32] ty #[.slice (some ⟨g, (i + 1) * 2, none⟩) dl dc, .slice (some ⟨g, i * 2, none⟩) sl sc]).run Try.prog (W.alloc (.cells vs 31)).drew = .ok (goInt (Nat.min sl dl)) ((W.alloc (.cells vs 31)).drew.setRow g R1) := fun ty dc sc dl sl hdl hsl => by
          subst hdl hsl
          rw [HR1.out]
          refine run_copy_z _ _ _ ty 31 ie g _ _ dc ⟨g, i * 2, none⟩ _ sc cur 31 (xs.drop (i * 2)) Try.underlying32 IE.out.1 HG.out ?_ ?_ ?_ (fun u hu => H1X.out u (List.mem_of_mem_drop hu))
          · rw [IE.out.2.2.1, List.length_drop, HL.out]; simp only [Nat.min_def]; split <;> omega
          · intro j u hu
            rw [List.getElem?_drop] at hu
            rw [← HX.out, List.getElem?_take] at hu
            rw [show (⟨g, i * 2, none⟩ : Addr).add j = ⟨g, i * 2 + j, none⟩ from by unfold Addr.add; split <;> simp_all]
            split at hu
            · exact cell_of_block HG.out _ (by simpa using hu)
            · cases hu
          · rw [List.length_drop, HL.out, HC.out]; omega
        go_region_law_o (refine step_copy_runI rfl _ _ 32 32 rfl _ _ (by simp [Act.eval, Act.put]) (by simp [Act.eval, Act.put]) (hcp1 _ _ _ _ _ (by omega) (by omega)) ?_)
        have hl1 : (xs.drop (i * 2)).length = n * 2 - i * 2 := by rw [List.length_drop, HL.out]
        have hR1s : R1.size = cap * 2 := by
          have := HC.out
          rw [HR1.out]
          simp only [List.size_toArray, List.length_append, List.length_take, List.length_drop, hl1, Array.length_toList, HL.out]
          omega
        have hG1 : ((W.alloc (.cells vs 31)).drew.setRow g R1).heap[g]? = some (.cells R1 31 (0, 0)) := setRow_heap _ _ _ _ _ _ HG.out
        have hV1 : ((W.alloc (.cells vs 31)).drew.setRow g R1).heap[W.heap.size]? = some (.cells vs 31 (0, 0)) := (setRow_other _ _ _ _ hgn').trans HV.out
        obtain ⟨R2, hR2⟩ : ∃ R2 : Array Value, R2 = (R1.toList.take (i * 2) ++ vs.toList ++ R1.toList.drop (i * 2 + vs.toList.length)).toArray := ⟨_, rfl⟩
        have HR2 := Lib.hid hR2; clear hR2
        have hcp2 : ∀ ty dc sc dl, dl = n + 1 - i → (Builtin.copy_ #[32, 32] ty #[.slice (some ⟨g, i * 2, none⟩) dl dc, .slice (some ⟨W.heap.size, 0, none⟩) 1 sc]).run Try.prog ((W.alloc (.cells vs 31)).drew.setRow g R1) = .ok (goInt (Nat.min 1 dl)) ((W.alloc (.cells vs 31)).drew.setRow g R2) := fun ty dc sc dl hdl => by
          subst hdl
          rw [show (W.alloc (.cells vs 31)).drew.setRow g R2 = ((W.alloc (.cells vs 31)).drew.setRow g R1).setRow g R2 from (setRow_setRow _ g R1 R2).symm, HR2.out]
          refine run_copy_z _ _ _ ty 31 ie g _ _ dc ⟨W.heap.size, 0, none⟩ _ sc R1 31 vs.toList Try.underlying32 IE.out.1 hG1 ?_ ?_ ?_ H1V.out
          · rw [IE.out.2.2.1, Array.length_toList, hvs]; simp only [Nat.min_def]; split <;> omega
          · intro j u hu
            rw [show (⟨W.heap.size, 0, none⟩ : Addr).add j = ⟨W.heap.size, j, none⟩ from by unfold Addr.add; split <;> simp_all]
            exact cell_of_block hV1 j (by simpa using hu)
          · rw [Array.length_toList, hvs, hR1s]; omega
        have hO : Only [g] W ((W.alloc (.cells vs 31)).drew.setRow g R2) := ((Only.alloc [g] W _).trans (Only.drew [g] _) (Within.refl _ _)).trans (Only.setRow _ g R2) (Within.refl _ _)
        have hG2 : ((W.alloc (.cells vs 31)).drew.setRow g R2).heap[g]? = some (.cells R2 31 (0, 0)) := setRow_heap _ _ _ _ _ _ HG.out
        have hlen2 : (xs.take (i * 2) ++ vs.toList ++ xs.drop (i * 2)).length = (n + 1) * 2 := by
          simp only [List.length_append, List.length_take, List.length_drop, Array.length_toList, HL.out, hvs]; omega
        have hR2s : R2.size = cap * 2 := by
          rw [HR2.out]
          simp only [List.size_toArray, List.length_append, List.length_take, List.length_drop, Array.length_toList, hR1s, hvs]
          omega
        have htk : R2.toList.take ((n + 1) * 2) = xs.take (i * 2) ++ vs.toList ++ xs.drop (i * 2) := by
          have e1 : R1.toList = cur.toList.take ((i + 1) * 2) ++ (xs.drop (i * 2) ++ cur.toList.drop ((i + 1) * 2 + (xs.drop (i * 2)).length)) := by rw [HR1.out]; simp
          have e3 : R1.toList.take (i * 2) = xs.take (i * 2) := by
            rw [e1, List.take_append_of_le_length (by rw [List.length_take, Array.length_toList, HC.out]; omega), List.take_take, ← HX.out, List.take_take]
            congr 1
            omega
          have e4 : R1.toList.drop (i * 2 + vs.toList.length) = xs.drop (i * 2) ++ cur.toList.drop ((i + 1) * 2 + (xs.drop (i * 2)).length) := by
            have e5 : i * 2 + vs.toList.length = (cur.toList.take ((i + 1) * 2)).length := by rw [Array.length_toList, hvs, List.length_take, Array.length_toList, HC.out]; omega
            rw [e1, e5, List.drop_left]
          have e6 : R2.toList = (xs.take (i * 2) ++ vs.toList ++ xs.drop (i * 2)) ++ cur.toList.drop ((i + 1) * 2 + (xs.drop (i * 2)).length) := by
            rw [HR2.out, ← e3, List.append_assoc _ (xs.drop _), ← e4]
          rw [e6, ← hlen2, List.take_left]
        have HF := Lib.hid (show Sep w ((W.alloc (.cells vs 31)).drew.setRow g R2) (rowRes 31 2 (.slice (some ⟨g, 0, none⟩) (n + 1) cap) (n + 1) (xs.take (i * 2) ++ vs.toList ++ xs.drop (i * 2)) :: l) from by
          refine HS.out.turn ?_
          rintro F ⟨_, rfl⟩
          exact ⟨_, ⟨⟨hlen2, .inr ⟨g, cap, R2, rfl, Nat.zero_le _, hG2, hroom, hcm, hR2s, htk⟩⟩, rfl⟩, hO, Within.refl _ _⟩)
        clear hO hG2 hlen2 hR2s htk hG1 hV1 hR1s hl1 hcp1 HR1 HR2 HS HX HL HG HV HC
        go_wp2_with (at_builtin; refine wpList_copy_runI _ rfl _ _ 32 32 rfl _ _ rfl rfl (hcp2 _ _ _ _ (by omega)) ?_)
        go_ret
        exact ⟨_, _, rfl, HF.out⟩
      · have hcn : cap = n := by omega
        subst hcn
        have hr1 : (cap : Int) < (cap : Int) + 1 := by omega
        have hw1 : IntKind.i64.wrap ((i : Int) + 1) = (i : Int) + 1 := IntWalk.i64_in _ (by omega)
        have hw2 : IntKind.i64.wrap ((cap : Int) + 1) = (cap : Int) + 1 := IntWalk.i64_in _ (by omega)
        have hw3 : IntKind.i64.wrap ((cap : Int) + 1 - (i : Int)) = (cap : Int) + 1 - (i : Int) := IntWalk.i64_in _ (by omega)
        have mixed : Try.prog.follows .mixedOrders = true := by kernel_rfl
        have b5 : (0 : Int) ≤ (i : Int) + 1 := by omega
        have b6 : (i : Int) ≤ (cap : Int) + 1 := by omega
        have b7 : (i : Int) + 1 ≤ (cap : Int) + 1 := by omega
        have b8 : i ≤ cap + 1 := by omega
        have hr3 : i + 1 ≤ cap + 1 := by omega
        have hik : i + (cap + 1 - i) = cap + 1 := by omega
        obtain ⟨W0, hW0⟩ : ∃ W0, W0 = W.alloc (.cells vs 31) := ⟨_, rfl⟩
        have hN : W0.heap.size = W.heap.size + 1 := by rw [hW0]; simp
        have hO0 : Only [] W W0 := by rw [hW0]; exact Only.alloc [] W _
        rw [← hW0] at hbG hbV ⊢
        obtain ⟨G, hG⟩ : ∃ G, G = grownCap W0 (cap + 1) cap 31 := ⟨_, rfl⟩
        obtain ⟨ROW, hROW⟩ : ∃ ROW : Array Value, ROW = (xs.take (i * 2)).toArray ++ Builtin.zeroCells (.agg #[.string ⟨#[]⟩, .int .i64 0] : Value).cells (cap + 1 - i) ++ Builtin.zeroCells (.agg #[.string ⟨#[]⟩, .int .i64 0] : Value).cells (G - (cap + 1)) := ⟨_, rfl⟩
        have hold : (Builtin.firstCells ie.size i (.slice (some ⟨g, 0, none⟩) i cap)).run Try.prog W0.drew = .ok (xs.take (i * 2)).toArray W0.drew := by
          rw [IE.out.2.2.1]
          refine run_firstCells_some W0.drew 2 i ⟨g, 0, none⟩ i cap (xs.take (i * 2)) (by rw [List.length_take, hxl]; omega) ?_
          intro j u hj
          rw [show (⟨g, 0, none⟩ : Addr).add j = ⟨g, j, none⟩ from by unfold Addr.add; split <;> simp_all]
          rw [List.getElem?_take] at hj
          split at hj
          · rw [← htake, List.getElem?_take] at hj
            split at hj
            · exact cell_of_block (w := W0.drew) hbG j (by simpa using hj)
            · cases hj
          · cases hj
        have hrz : ∀ ty, (Builtin.append_ #[32, 3] ty #[.slice (some ⟨g, 0, none⟩) i cap, .int .i64 ((cap : Int) + 1 - (i : Int))]).run Try.prog W0 =
            .ok (.slice (some ⟨W0.heap.size, 0, none⟩) (cap + 1) G) (W0.drew.alloc (.cells ROW 31)) := fun ty => by
          have h := Lib.run_append_grow_zeros W0 32 3 ty 31 ie _ .i64 .i64 Try.underlying32 Try.underlying3 IE.out.1 IE.out.2.1 (some ⟨g, 0, none⟩) i cap (xs.take (i * 2)) hold (cap + 1 - i) (by omega) (by rw [IE.out.2.2.1]; decide) (by omega) (by omega) (by rw [IE.out.2.2.2]; omega) (by rw [IE.out.2.2.2, hik]; exact growslice_fits (by omega) (by omega))
          rw [hik] at h
          rw [hROW, hG, show (cap : Int) + 1 - (i : Int) = ((cap + 1 - i : Nat) : Int) by omega]
          exact h
        obtain ⟨V1, hV1⟩ : ∃ V1, V1 = W0.drew.alloc (.cells ROW 31) := ⟨_, rfl⟩
        rw [← hV1] at hrz
        have HRZ := Lib.hid hrz
        have HS := Lib.hid hs
        have HX := Lib.hid htake
        have HL := Lib.hid hxl
        have HG := Lib.hid hbG
        have HV := Lib.hid hbV
        have HC := Lib.hid hcs
        have H1V := Lib.hid h1v
        have H1X := Lib.hid h1x
        have HROW := Lib.hid hROW
        have HGG := Lib.hid hG
        have HW0 := Lib.hid hW0
        have HO0 := Lib.hid hO0
        have HNN := Lib.hid hN
        have hGn : cap + 1 ≤ G := by rw [hG]; exact grownCap_ge W0 _ _ _
        have hG63 : G ≤ maxLen := by rw [hG]; exact grownCap_le_maxLen W0 (cap + 1) cap 31 (by unfold maxLen; omega)
        have hG63' : G ≤ 9223372036854775807 := by unfold maxLen at hG63; exact hG63
        have hGi : ¬ (G = i) := by omega
        have hGim : ¬ (G = i + 1) := by omega
        clear hrz hs htake hxl hbG hbV hcs h1v h1x hROW hG hW0 hO0 hold hg
        have hVO : Only [] W V1 := by rw [hV1]; exact (HO0.out.trans (Only.drew [] W0) (Within.nil _ _)).trans (Only.alloc [] _ _) (Within.nil _ _)
        have hN1 : V1.heap[W.heap.size + 1]? = some (.cells ROW 31 (0, 0)) := by rw [hV1, ← HNN.out]; exact heap_alloc_self (w := W0.drew)
        have hVV : V1.heap[W.heap.size]? = some (.cells vs 31 (0, 0)) := by rw [hV1]; exact (heap_alloc_lt (w := W0.drew) (by show _ < W0.heap.size; rw [HNN.out]; omega)).trans HV.out
        have hGV : V1.heap[g]? = some (.cells cur 31 (0, 0)) := by rw [hV1]; exact (heap_alloc_lt (w := W0.drew) (by show _ < W0.heap.size; rw [HNN.out]; omega)).trans HG.out
        have hz1 : ∀ k, (Builtin.zeroCells (.agg #[.string ⟨#[]⟩, .int .i64 0] : Value).cells k).toList.length = k * 2 := fun k => by rw [Array.length_toList, size_zeroCells]; rfl
        have hROWs : ROW.size = G * 2 := by
          rw [HROW.out]
          have h1 := hz1 (cap + 1 - i)
          have h2 := hz1 (G - (cap + 1))
          rw [Array.length_toList] at h1 h2
          simp only [Array.size_append, List.size_toArray, h1, h2, List.length_take, HL.out]
          omega
        obtain ⟨A1, hA1⟩ : ∃ A1 : Array Value, A1 = (ROW.toList.take (i * 2) ++ vs.toList ++ ROW.toList.drop (i * 2 + vs.toList.length)).toArray := ⟨_, rfl⟩
        have hA1s : A1.size = G * 2 := by
          rw [hA1]
          simp only [List.size_toArray, List.length_append, List.length_take, List.length_drop, Array.length_toList, hROWs, hvs]
          omega
        obtain ⟨A2, hA2⟩ : ∃ A2 : Array Value, A2 = (A1.toList.take ((i + 1) * 2) ++ xs.drop (i * 2) ++ A1.toList.drop ((i + 1) * 2 + (xs.drop (i * 2)).length)).toArray := ⟨_, rfl⟩
        have hl1 : (xs.drop (i * 2)).length = cap * 2 - i * 2 := by rw [List.length_drop, HL.out]
        have hA2s : A2.size = G * 2 := by
          rw [hA2]
          simp only [List.size_toArray, List.length_append, List.length_take, List.length_drop, Array.length_toList, hA1s, hl1, HL.out]
          omega
        have HA1 := Lib.hid hA1
        have HA2 := Lib.hid hA2
        clear hA1 hA2
        have hcpA : ∀ ty dc sc dl, dl = cap + 1 - i → (Builtin.copy_ #[32, 32] ty #[.slice (some ⟨W.heap.size + 1, i * 2, none⟩) dl dc, .slice (some ⟨W.heap.size, 0, none⟩) 1 sc]).run Try.prog V1 = .ok (goInt (Nat.min 1 dl)) (V1.setRow (W.heap.size + 1) A1) := fun ty dc sc dl hdl => by
          subst hdl
          rw [HA1.out]
          refine run_copy_z _ _ _ ty 31 ie _ _ _ dc ⟨W.heap.size, 0, none⟩ _ sc ROW 31 vs.toList Try.underlying32 IE.out.1 hN1 ?_ ?_ ?_ H1V.out
          · rw [IE.out.2.2.1, Array.length_toList, hvs]; simp only [Nat.min_def]; split <;> omega
          · intro j u hu
            rw [show (⟨W.heap.size, 0, none⟩ : Addr).add j = ⟨W.heap.size, j, none⟩ from by unfold Addr.add; split <;> simp_all]
            exact cell_of_block hVV j (by simpa using hu)
          · rw [Array.length_toList, hvs, hROWs]; omega
        have hN2 : ((V1.setRow (W.heap.size + 1) A1).drew).heap[W.heap.size + 1]? = some (.cells A1 31 (0, 0)) := setRow_heap _ _ _ _ _ _ hN1
        have hG2 : ((V1.setRow (W.heap.size + 1) A1).drew).heap[g]? = some (.cells cur 31 (0, 0)) := (setRow_other _ _ _ _ (by omega)).trans hGV
        have hcpB : ∀ ty dc sc dl sl, dl = cap - i → sl = cap - i → (Builtin.copy_ #[32, 32] ty #[.slice (some ⟨W.heap.size + 1, (i + 1) * 2, none⟩) dl dc, .slice (some ⟨g, i * 2, none⟩) sl sc]).run Try.prog ((V1.setRow (W.heap.size + 1) A1).drew) = .ok (goInt (Nat.min sl dl)) (((V1.setRow (W.heap.size + 1) A1).drew).setRow (W.heap.size + 1) A2) := fun ty dc sc dl sl hdl hsl => by
          subst hdl hsl
          rw [HA2.out]
          refine run_copy_z _ _ _ ty 31 ie _ _ _ dc ⟨g, i * 2, none⟩ _ sc A1 31 (xs.drop (i * 2)) Try.underlying32 IE.out.1 hN2 ?_ ?_ ?_ (fun u hu => H1X.out u (List.mem_of_mem_drop hu))
          · rw [IE.out.2.2.1, List.length_drop, HL.out]; simp only [Nat.min_def]; split <;> omega
          · intro j u hu
            rw [List.getElem?_drop] at hu
            rw [← HX.out, List.getElem?_take] at hu
            rw [show (⟨g, i * 2, none⟩ : Addr).add j = ⟨g, i * 2 + j, none⟩ from by unfold Addr.add; split <;> simp_all]
            split at hu
            · exact cell_of_block hG2 _ (by simpa using hu)
            · cases hu
          · rw [hl1, hA1s]; omega
        have hlen2 : (xs.take (i * 2) ++ vs.toList ++ xs.drop (i * 2)).length = (cap + 1) * 2 := by
          simp only [List.length_append, List.length_take, List.length_drop, Array.length_toList, HL.out, hvs]; omega
        have htk : A2.toList.take ((cap + 1) * 2) = xs.take (i * 2) ++ vs.toList ++ xs.drop (i * 2) := by
          have e0 : ROW.toList = xs.take (i * 2) ++ ((Builtin.zeroCells (.agg #[.string ⟨#[]⟩, .int .i64 0] : Value).cells (cap + 1 - i)).toList ++ (Builtin.zeroCells (.agg #[.string ⟨#[]⟩, .int .i64 0] : Value).cells (G - (cap + 1))).toList) := by rw [HROW.out]; simp
          have e3 : ROW.toList.take (i * 2) = xs.take (i * 2) := by
            rw [e0, List.take_append_of_le_length (by rw [List.length_take, HL.out]; omega), List.take_take]
            congr 1
            omega
          have e1 : A1.toList = (xs.take (i * 2) ++ vs.toList) ++ ROW.toList.drop (i * 2 + vs.toList.length) := by rw [HA1.out, ← e3]
          have e4 : A1.toList.take ((i + 1) * 2) = xs.take (i * 2) ++ vs.toList := by
            have e5 : (i + 1) * 2 = (xs.take (i * 2) ++ vs.toList).length := by simp only [List.length_append, Array.length_toList, hvs, List.length_take, HL.out]; omega
            rw [e1, e5, List.take_left]
          have e6 : A2.toList = (xs.take (i * 2) ++ vs.toList ++ xs.drop (i * 2)) ++ A1.toList.drop ((i + 1) * 2 + (xs.drop (i * 2)).length) := by rw [HA2.out, ← e4]
          rw [e6, ← hlen2, List.take_left]
        have hG3 : (((V1.setRow (W.heap.size + 1) A1).drew).setRow (W.heap.size + 1) A2).heap[W.heap.size + 1]? = some (.cells A2 31 (0, 0)) := setRow_heap _ _ _ _ _ _ hN2
        have hOf : Only [] W (((V1.setRow (W.heap.size + 1) A1).drew).setRow (W.heap.size + 1) A2) :=
          (((hVO.mono (G := [W.heap.size + 1]) (by simp)).trans (Only.setRow _ _ _) (Within.refl _ _)).trans (Only.drew [W.heap.size + 1] _) (Within.refl _ _)).trans (Only.setRow _ _ _) (Within.refl _ _) |>.within (fun k hk => by right; simp at hk; omega)
        have HF := Lib.hid (show Sep w (((V1.setRow (W.heap.size + 1) A1).drew).setRow (W.heap.size + 1) A2) (rowRes 31 2 (.slice (some ⟨W.heap.size + 1, 0, none⟩) (cap + 1) G) (cap + 1) (xs.take (i * 2) ++ vs.toList ++ xs.drop (i * 2)) :: l) from by
          refine HS.out.turn ?_
          rintro F ⟨_, rfl⟩
          exact ⟨_, ⟨⟨hlen2, .inr ⟨_, G, A2, rfl, Nat.zero_le _, hG3, hGn, hG63, hA2s, htk⟩⟩, rfl⟩, hOf.mono (by simp), fun k hk => by right; simp [Value.ownBlock] at hk; omega⟩)
        have HA := Lib.hid hcpA
        have HB := Lib.hid hcpB
        clear hcpA hcpB hlen2 htk hG3 hOf hN2 hG2 hN1 hVV hGV hVO hROWs hA1s hA2s hl1 hV1
        go_enter Try.func46, Try.ntmps46
        go_wp2_with (first | (at_builtin; refine Lib.wpList_append_run _ rfl _ _ _ _ rfl _ _ rfl rfl _ _ (HRZ.out _) ?_) | (refine wpList_copy_runI _ rfl _ _ 32 32 rfl _ _ rfl rfl (HA.out _ _ _ _ (by omega)) ?_))
        go_region_law_o (refine step_copy_runI rfl _ _ 32 32 rfl (.slice (some ⟨W.heap.size + 1, (i + 1) * 2, none⟩) (cap - i) (G - (i + 1))) (.slice (some ⟨g, i * 2, none⟩) (cap - i) (cap - i)) (by simp [Act.eval, Act.put]) (by simp [Act.eval, Act.put]) (HB.out 3 (G - (i + 1)) (cap - i) (cap - i) (cap - i) rfl rfl) ?_)
        go_wp2_with fail
        go_ret
        exact ⟨_, _, rfl, HF.out⟩

set_option maxHeartbeats 1000000 in
set_option maxRecDepth 100000 in
/-- slices.Delete(row, i, i+1). -/
theorem del_ent {w W : World} {l : List Res} {v : Value} {n : Nat} {xs : List Value} (i : Nat) (h1x : ∀ u ∈ xs, u.oneCell' = true) (hi : i < n) (hn : n ≤ 100000)
    (hs : Sep w W (rowRes 31 2 v n xs :: l)) :
    Calls Try.prog 43 #[v, .int .i64 i, .int .i64 ((i : Int) + 1)] W fun r W' =>
      ∃ p q, r = .returned (.slice p (n - 1) q) ∧ Sep w W' (rowRes 31 2 (.slice p (n - 1) q) (n - 1) (xs.take (i * 2) ++ xs.drop ((i + 1) * 2)) :: l) := by
  obtain ⟨ie, IE⟩ := info_of Try.infoEnt
  have hrow := hs.row
  have hxl := hrow.1
  rcases hrow.2 with ⟨h1, h2⟩ | ⟨g, cap, cur, hv, _, hg, hnc, hcm, hcs, htake⟩
  · exfalso; omega
  subst hv
  have b1 : (0 : Int) ≤ (i : Int) := by omega
  have b2 : (i : Int) < (n : Int) := by omega
  have b3 : (n : Int) ≤ 100000 := by omega
  have b4 : (n : Int) ≤ (cap : Int) := by omega
  have b5 : (i : Int) + 1 ≤ (n : Int) := by omega
  have b6 : (0 : Int) ≤ (i : Int) + 1 := by omega
  have b7 : (i : Int) ≤ (i : Int) + 1 := by omega
  have b8 : i + 1 ≤ n := by omega
  have b9 : ¬ ((i : Int) = (i : Int) + 1) := by omega
  have b10 : i + 1 ≤ cap := by omega
  have b11 : i ≤ cap := by omega
  have b12 : i ≤ n := by omega
  have b13 : n ≤ cap := by omega
  have hcm' : (cap : Int) ≤ 9223372036854775807 := by unfold maxLen at hcm; omega
  have hci : ¬ (cap = i) := by omega
  have hm1 : i + (n - (i + 1)) = n - 1 := by omega
  have hm2 : n - 1 ≤ n := by omega
  have hone : n - (n - 1) = 1 := by omega
  have hm3 : n - 1 ≤ cap := by omega
  have hm4 : ¬ (cap = n - 1) := by omega
  have mixed : Try.prog.follows .mixedOrders = true := by kernel_rfl
  obtain ⟨news, hnews⟩ : ∃ news, news = xs.drop ((i + 1) * 2) := ⟨_, rfl⟩
  have hnl : news.length = (n - (i + 1)) * 2 := by rw [hnews, List.length_drop, hxl]; omega
  have hmem : ∀ u ∈ news, u.oneCell' = true := fun u hu => h1x u (List.mem_of_mem_drop (by rw [hnews] at hu; exact hu))
  obtain ⟨A, hA⟩ : ∃ A : Addr, (if cap = i + 1 then some (⟨g, 0, none⟩ : Addr) else some ⟨g, (i + 1) * 2, none⟩) = some A := by
    by_cases h : cap = i + 1
    · exact ⟨_, if_pos h⟩
    · exact ⟨_, if_neg h⟩
  have hsrc : ∀ j u, news[j]? = some u → W.drew.cell? (A.add j) = some u := by
    intro j u hu
    have hj : j < news.length := (List.getElem?_eq_some_iff.1 hu).1
    by_cases hc : cap = i + 1
    · exfalso; rw [hnl] at hj; omega
    · rw [if_neg hc] at hA
      cases hA
      rw [show (⟨g, (i + 1) * 2, none⟩ : Addr).add j = ⟨g, (i + 1) * 2 + j, none⟩ from by unfold Addr.add; split <;> simp_all]
      rw [hnews, List.getElem?_drop, ← htake, List.getElem?_take] at hu
      split at hu
      · exact cell_of_block (w := W.drew) hg _ (by simpa using hu)
      · cases hu
  obtain ⟨R1, hR1⟩ : ∃ R1 : Array Value, R1 = (cur.toList.take (i * ie.size) ++ news ++ cur.toList.drop (i * ie.size + news.length)).toArray := ⟨_, rfl⟩
  have happ : ∀ ty c, (Builtin.append_ #[32, 32] ty #[.slice (some ⟨g, 0, none⟩) i cap, .slice (some A) (n - (i + 1)) c]).run Try.prog W.drew = .ok (.slice (some ⟨g, 0, none⟩) (n - 1) cap) (W.drew.setRow g R1) := fun ty c => by
    rw [hR1, ← hm1]
    exact run_append_room W.drew 32 ty 31 ie Try.underlying32 IE.out.1 g i cap cur hg A _ c news (by rw [hnl, IE.out.2.2.1]) hsrc hmem (by omega) (by rw [hnl, IE.out.2.2.1, hcs]; omega)
  rw [IE.out.2.2.1] at hR1
  have hR1s : R1.size = cap * 2 := by
    rw [hR1]
    simp only [List.size_toArray, List.length_append, List.length_take, List.length_drop, Array.length_toList, hcs, hnl]
    omega
  have hG1 : (W.drew.setRow g R1).heap[g]? = some (.cells R1 31 (0, 0)) := setRow_heap _ _ _ _ _ _ hg
  obtain ⟨R2, hR2⟩ : ∃ R2 : Array Value, R2 = (R1.toList.take ((n - 1) * 2) ++ (Builtin.zeroCells (.agg #[.string ⟨#[]⟩, .int .i64 0] : Value).cells 1).toList ++ R1.toList.drop ((n - 1) * 2 + 1 * (.agg #[.string ⟨#[]⟩, .int .i64 0] : Value).cells.size)).toArray := ⟨_, rfl⟩
  have hclr : ∀ ty c, (Builtin.clear_ #[32] ty #[.slice (some ⟨g, (n - 1) * 2, none⟩) 1 c]).run Try.prog (W.drew.setRow g R1) = .ok (.tuple #[]) (W.drew.setRow g R2) := fun ty c => by
    rw [show W.drew.setRow g R2 = (W.drew.setRow g R1).setRow g R2 from (setRow_setRow _ g R1 R2).symm, hR2]
    exact run_clear_z _ _ 31 ty (.agg #[.string ⟨#[]⟩, .int .i64 0]) Try.underlying32 (fun w => by kernel_rfl) (by decide) g _ 1 c R1 _ hG1 (by decide) (by rw [hR1s, show (.agg #[.string ⟨#[]⟩, .int .i64 0] : Value).cells.size = 2 from rfl]; omega)
  have hzl : (Builtin.zeroCells (.agg #[.string ⟨#[]⟩, .int .i64 0] : Value).cells 1).toList.length = 2 := by rw [Array.length_toList, size_zeroCells]; rfl
  have hR2s : R2.size = cap * 2 := by
    rw [hR2, show (.agg #[.string ⟨#[]⟩, .int .i64 0] : Value).cells.size = 2 from rfl]
    simp only [List.size_toArray, List.length_append, List.length_take, List.length_drop, Array.length_toList, hR1s, hzl]
    simp only [Array.length_toList] at hzl
    omega
  have hG2 : (W.drew.setRow g R2).heap[g]? = some (.cells R2 31 (0, 0)) := setRow_heap _ _ _ _ _ _ hg
  have hlen2 : (xs.take (i * 2) ++ xs.drop ((i + 1) * 2)).length = (n - 1) * 2 := by
    simp only [List.length_append, List.length_take, List.length_drop, hxl]; omega
  have htk : R2.toList.take ((n - 1) * 2) = xs.take (i * 2) ++ xs.drop ((i + 1) * 2) := by
    have e0 : cur.toList.take (i * 2) = xs.take (i * 2) := by
      rw [← htake, List.take_take]; congr 1; omega
    have e1 : R1.toList = (xs.take (i * 2) ++ xs.drop ((i + 1) * 2)) ++ cur.toList.drop (i * 2 + news.length) := by rw [hR1, ← hnews, ← e0]; try simp
    have e2 : R1.toList.take ((n - 1) * 2) = xs.take (i * 2) ++ xs.drop ((i + 1) * 2) := by
      rw [e1, show (n - 1) * 2 = (xs.take (i * 2) ++ xs.drop ((i + 1) * 2)).length from by have := hlen2; omega, List.take_left]
    have e3 : R2.toList = (xs.take (i * 2) ++ xs.drop ((i + 1) * 2)) ++ ((Builtin.zeroCells (.agg #[.string ⟨#[]⟩, .int .i64 0] : Value).cells 1).toList ++ R1.toList.drop ((n - 1) * 2 + 1 * (.agg #[.string ⟨#[]⟩, .int .i64 0] : Value).cells.size)) := by rw [hR2, ← e2]; simp
    rw [e3, ← hlen2, List.take_left]
  have HF := Lib.hid (show Sep w (W.drew.setRow g R2) (rowRes 31 2 (.slice (some ⟨g, 0, none⟩) (n - 1) cap) (n - 1) (xs.take (i * 2) ++ xs.drop ((i + 1) * 2)) :: l) from by
    refine hs.turn ?_
    rintro F ⟨_, rfl⟩
    exact ⟨_, ⟨⟨hlen2, .inr ⟨g, cap, R2, rfl, Nat.zero_le _, hG2, by omega, hcm, hR2s, htk⟩⟩, rfl⟩, (Only.drew [g] W).trans (Only.setRow _ g R2) (Within.refl _ _), Within.refl _ _⟩)
  have HAPP := Lib.hid happ
  have HCLR := Lib.hid hclr
  clear happ hclr htk hlen2 hG2 hR2s hzl hR2 hG1 hR1s hR1 hsrc hmem hnl hnews hs hrow hxl hg hcs htake h1x
  go_enter Try.func43, Try.ntmps43
  go_wp2_with fail
  go_region_law_o (refine step_append_runI rfl _ _ 32 32 rfl (.slice (some ⟨g, 0, none⟩) i cap) (.slice (some A) (n - (i + 1)) (cap - (i + 1))) (by simp [Act.eval, Act.put]) (by simp [Act.eval, Act.put, hA]) (HAPP.out _ _) ?_)
  go_wp2_with (refine wpList_clear_run _ rfl _ _ rfl _ rfl (HCLR.out _ _) ?_)
  go_ret
  exact ⟨_, _, rfl, HF.out⟩

set_option maxHeartbeats 1000000 in
set_option maxRecDepth 100000 in
/-- slices.Clone(row). -/
theorem clo_ent {w W : World} {l : List Res} {p : Option Addr} {m c : Nat} {news : List Value} (hl : news.length = m * 2) (hnews : ∀ j u, news[j]? = some u → ∃ b o, p = some ⟨b, o, none⟩ ∧ W.cell? ⟨b, o + j, none⟩ = some u)
    (h1 : ∀ u ∈ news, u.oneCell' = true) (hm : m ≤ 100000) (hs : Sep w W l) :
    Calls Try.prog 47 #[.slice p m c] W fun r W' => ∃ p' q, r = .returned (.slice p' m q) ∧ Sep w W' (rowRes 31 2 (.slice p' m q) m news :: l) := by
  obtain ⟨ie, IE⟩ := info_of Try.infoEnt
  cases p with
  | none =>
    have hn : news = [] := by
      cases news with
      | nil => rfl
      | cons u l => obtain ⟨b, o, he, _⟩ := hnews 0 u rfl; cases he
    subst hn
    obtain rfl : m = 0 := by simp at hl; omega
    have HS := Lib.hid (hs.row_nil 31 2)
    clear hs hnews h1 hl
    have heq := fun (w : World) => Lib.run_eql_slice_nil (P := Try.prog) w 32 31 none 0 c 0 0 Try.underlying32
    go_enter Try.func47, Try.ntmps47
    go_wp2_with fail
    go_ret
    exact ⟨_, _, rfl, HS.out⟩
  | some a =>
    have HN : Hid (∀ j u, news[j]? = some u → ∃ b o, some a = some ⟨b, o, none⟩ ∧ (W.alloc (.cells #[] 31)).cell? ⟨b, o + j, none⟩ = some u) := by
      intro j u hu
      obtain ⟨b, o, he, hc⟩ := hnews j u hu
      exact ⟨b, o, he, Lib.cell?_alloc_some _ hc⟩
    have H1 := Lib.hid h1
    have HL := Lib.hid hl
    have HS := Lib.hid (hs.row_made 31 2)
    clear hs hnews h1 hl
    have heq := fun (w : World) => Lib.run_eql_slice_nil (P := Try.prog) w 32 31 (some a) m c 0 0 Try.underlying32
    go_enter Try.func47, Try.ntmps47
    go_wp2_with (at_builtin; go_must (refine wpList_append_src (w := w) (l := l) (e := 31) rfl (.tmp 5) (.tmp 6) 32 rfl ie _ 2 24 Try.underlying32 IE.out rfl (by decide) _ 0 [] rfl (some a) m c news rfl HL.out HN.out H1.out HS.out (by unfold maxLen; omega) (by omega) ?_))
    intro p2 q2 w2 hs2
    have HS2 := Lib.hid hs2; clear hs2 HS
    go_wp2_with fail
    go_ret
    exact ⟨_, _, rfl, HS2.out⟩

set_option maxHeartbeats 1000000 in
set_option maxRecDepth 100000 in
/-- slices.Insert(row, i, x). -/
theorem ins_ptr {w W : World} {l : List Res} {v : Value} {n : Nat} {xs : List Value} (i : Nat) (vs : Array Value) (hvs : vs.size = 1) (h1v : ∀ u ∈ vs.toList, u.oneCell' = true) (h1x : ∀ u ∈ xs, u.oneCell' = true) (hi : i ≤ n) (hn : n ≤ 100000)
    (hs : Sep w W (rowRes 84 1 v n xs :: l)) :
    Calls Try.prog 49 #[v, .int .i64 i, .slice (some ⟨W.heap.size, 0, none⟩) 1 1] (W.alloc (.cells vs 84)) fun r W' =>
      ∃ p q, r = .returned (.slice p (n + 1) q) ∧ Sep w W' (rowRes 84 1 (.slice p (n + 1) q) (n + 1) (xs.take (i) ++ vs.toList ++ xs.drop (i)) :: l) := by
  obtain ⟨ie, IE⟩ := info_of Try.infoNode
  have hrow := hs.row
  have hxl := hrow.1
  by_cases hin : i = n
  · subst hin
    obtain ⟨p, q, rfl⟩ := ownsRow_slice hrow
    have HS := Lib.hid hs
    have HV := Lib.hid h1v
    have b1 : (0 : Int) ≤ (i : Int) := by omega
    have b2 : (i : Int) ≤ 100000 := by omega
    rcases hrow.2 with ⟨h1, h2⟩ | ⟨g, cap, cur, hv, _, _, h3, _⟩
    · cases h1
      clear h2
      rw [show ((0 : Nat) : Int) = 0 from rfl]
      have HX := Lib.hid hxl
      clear hs hrow h1v h1x hxl
      go_enter Try.func49, Try.ntmps49
      go_wp2_with (at_builtin; go_must (refine wpList_append_sep (w := w) (e := 84) rfl (.tmp 23) (.tmp 24) 89 rfl ie _ 1 8 Try.underlying89 IE.out rfl (by decide) _ 0 xs rfl rfl rfl hvs HV.out HS.out (by unfold maxLen; omega) (by omega) ?_))
      intro p2 q2 w2 hs2
      have hs3 : Sep w w2 (rowRes 84 1 (.slice p2 (0 + 1) q2) (0 + 1) (xs.take (0) ++ vs.toList ++ xs.drop (0)) :: l) := by
        have hx0 : xs = [] := List.eq_nil_of_length_eq_zero (by rw [HX.out])
        subst hx0
        simpa using hs2
      have HS3 := Lib.hid hs3; clear hs3 hs2 HS HX
      go_wp2_with fail
      go_ret
      exact ⟨_, _, rfl, HS3.out⟩
    · cases hv
      have HX := Lib.hid hxl
      clear hs hrow h1v h1x hxl
      go_enter Try.func49, Try.ntmps49
      go_wp2_with (at_builtin; go_must (refine wpList_append_sep (w := w) (e := 84) rfl (.tmp 23) (.tmp 24) 89 rfl ie _ 1 8 Try.underlying89 IE.out rfl (by decide) _ i xs rfl rfl rfl hvs HV.out HS.out (by unfold maxLen; omega) (by omega) ?_))
      all_goals
        intro p2 q2 w2 hs2
        have hs3 : Sep w w2 (rowRes 84 1 (.slice p2 (i + 1) q2) (i + 1) (xs.take (i) ++ vs.toList ++ xs.drop (i)) :: l) := by
          rw [List.take_of_length_le (l := xs) (by have := HX.out; omega), List.drop_of_length_le (l := xs) (by have := HX.out; omega), List.append_nil]
          exact hs2
        have HS3 := Lib.hid hs3; clear hs3 hs2 HS HX
        go_wp2_with fail
        go_ret
        exact ⟨_, _, rfl, HS3.out⟩
  · rcases hrow.2 with ⟨h1, h2⟩ | ⟨g, cap, cur, hv, _, hg, hnc, hcm, hcs, htake⟩
    · exfalso; omega
    · subst hv
      have hgW := lt_of_block hg
      have hgn : g ≠ W.heap.size := by omega
      have hgn' : W.heap.size ≠ g := by omega
      have hlt : i < n := by omega
      have hi0 : ¬ ((i : Int) = (n : Int)) := by omega
      have b1 : (0 : Int) ≤ (i : Int) := by omega
      have b2 : (i : Int) < (n : Int) := by omega
      have b3 : (n : Int) ≤ 100000 := by omega
      have b4 : (n : Int) ≤ (cap : Int) := by omega
      have hcm' : (cap : Int) ≤ 9223372036854775807 := by unfold maxLen at hcm; omega
      have hbV : (W.alloc (.cells vs 84)).heap[W.heap.size]? = some (.cells vs 84 (0, 0)) := heap_alloc_self
      have hbG : (W.alloc (.cells vs 84)).heap[g]? = some (.cells cur 84 (0, 0)) := by rw [heap_alloc_lt hgW]; exact hg
      have hci : ¬ (cap = i) := by omega
      have hin' : i ≤ n := by omega
      have hic : i ≤ cap := by omega
      by_cases hroom : n + 1 ≤ cap
      · have hr1 : ¬ ((cap : Int) < (n : Int) + 1) := by omega
        have hr2 : ¬ (cap = i + 1) := by omega
        have hr3 : i + 1 ≤ n := by omega
        have hw1 : IntKind.i64.wrap ((i : Int) + 1) = (i : Int) + 1 := IntWalk.i64_in _ (by omega)
        have mixed : Try.prog.follows .mixedOrders = true := by kernel_rfl
        have b5 : (0 : Int) ≤ (i : Int) + 1 := by omega
        have b6 : (i : Int) ≤ (n : Int) + 1 := by omega
        have b7 : (i : Int) + 1 ≤ (n : Int) + 1 := by omega
        have b8 : i ≤ n + 1 := by omega
        have hw2 : IntKind.i64.wrap ((n : Int) + 1) = (n : Int) + 1 := IntWalk.i64_in _ (by omega)
        have hov : ∀ lb cb, (callFunc 61 #[.slice (some ⟨W.heap.size, 0, none⟩) 1 1, .slice (some ⟨g, i + 1, none⟩) lb cb]).run Try.prog (W.alloc (.cells vs 84)) = .ok (.value (.bool false)) (W.alloc (.cells vs 84)) := fun lb cb => by
          rw [run_callFunc_extern Try.func61 (by kernel_rfl) (by kernel_rfl) (by kernel_rfl) (e := Extern.SlicesOverlaps.overlaps #[89, 89] #[4]) (by kernel_rfl),
            Lib.run_overlaps_apart (W.alloc (.cells vs 84)) 89 4 84 Try.underlying89 1 ?sz ⟨W.heap.size, 0, none⟩ ⟨g, i + 1, none⟩ 1 1 lb cb hgn' 84 84 vs.size cur.size ?s1 ?s2 ?s3 (free_of_block hbV 0) (free_of_block hbV vs.size)]
          case sz => intro w; kernel_rfl
          case s1 => unfold World.shape?; rw [hbV]
          case s2 => unfold World.shape?; rw [hbG]
          case s3 => rw [hcs]; omega
          rfl
        have HOV := Lib.hid hov; clear hov
        have HS := Lib.hid hs
        have HX := Lib.hid htake
        have HL := Lib.hid hxl
        have HG := Lib.hid hbG
        have HV := Lib.hid hbV
        have HC := Lib.hid hcs
        have H1V := Lib.hid h1v
        have H1X := Lib.hid h1x
        have HG0 := Lib.hid hg
        clear hs hrow htake hxl hbG hbV hcs h1v h1x hg
        go_enter Try.func49, Try.ntmps49
        go_wp2_with (simp only [HOV.out])
        obtain ⟨R1, hR1⟩ : ∃ R1 : Array Value, R1 = (cur.toList.take (i + 1) ++ xs.drop (i) ++ cur.toList.drop (i + 1 + (xs.drop (i)).length)).toArray := ⟨_, rfl⟩
        have HR1 := Lib.hid hR1; clear hR1
        have hcp1 : ∀ ty dc sc dl sl, dl = n - i → sl = n + 1 - i → (Builtin.copy_ #[89, 89] ty #[.slice (some ⟨g, i + 1, none⟩) dl dc, .slice (some ⟨g, i, none⟩) sl sc]).run Try.prog (W.alloc (.cells vs 84)).drew = .ok (goInt (Nat.min sl dl)) ((W.alloc (.cells vs 84)).drew.setRow g R1) := fun ty dc sc dl sl hdl hsl => by
          subst hdl hsl
          rw [HR1.out]
          refine run_copy_z _ _ _ ty 84 ie g _ _ dc ⟨g, i, none⟩ _ sc cur 84 (xs.drop (i)) Try.underlying89 IE.out.1 HG.out ?_ ?_ ?_ (fun u hu => H1X.out u (List.mem_of_mem_drop hu))
          · rw [IE.out.2.2.1, List.length_drop, HL.out]; simp only [Nat.min_def]; split <;> omega
          · intro j u hu
            rw [List.getElem?_drop] at hu
            rw [← HX.out, List.getElem?_take] at hu
            rw [show (⟨g, i, none⟩ : Addr).add j = ⟨g, i + j, none⟩ from by unfold Addr.add; split <;> simp_all]
            split at hu
            · exact cell_of_block HG.out _ (by simpa using hu)
            · cases hu
          · rw [List.length_drop, HL.out, HC.out]; omega
        go_region_law_o (refine step_copy_runI rfl _ _ 89 89 rfl _ _ (by simp [Act.eval, Act.put]) (by simp [Act.eval, Act.put]) (hcp1 _ _ _ _ _ (by omega) (by omega)) ?_)
        have hl1 : (xs.drop (i)).length = n * 1 - i := by rw [List.length_drop, HL.out]
        have hR1s : R1.size = cap * 1 := by
          have := HC.out
          rw [HR1.out]
          simp only [List.size_toArray, List.length_append, List.length_take, List.length_drop, hl1, Array.length_toList, HL.out]
          omega
        have hG1 : ((W.alloc (.cells vs 84)).drew.setRow g R1).heap[g]? = some (.cells R1 84 (0, 0)) := setRow_heap _ _ _ _ _ _ HG.out
        have hV1 : ((W.alloc (.cells vs 84)).drew.setRow g R1).heap[W.heap.size]? = some (.cells vs 84 (0, 0)) := (setRow_other _ _ _ _ hgn').trans HV.out
        obtain ⟨R2, hR2⟩ : ∃ R2 : Array Value, R2 = (R1.toList.take (i) ++ vs.toList ++ R1.toList.drop (i + vs.toList.length)).toArray := ⟨_, rfl⟩
        have HR2 := Lib.hid hR2; clear hR2
        have hcp2 : ∀ ty dc sc dl, dl = n + 1 - i → (Builtin.copy_ #[89, 89] ty #[.slice (some ⟨g, i, none⟩) dl dc, .slice (some ⟨W.heap.size, 0, none⟩) 1 sc]).run Try.prog ((W.alloc (.cells vs 84)).drew.setRow g R1) = .ok (goInt (Nat.min 1 dl)) ((W.alloc (.cells vs 84)).drew.setRow g R2) := fun ty dc sc dl hdl => by
          subst hdl
          rw [show (W.alloc (.cells vs 84)).drew.setRow g R2 = ((W.alloc (.cells vs 84)).drew.setRow g R1).setRow g R2 from (setRow_setRow _ g R1 R2).symm, HR2.out]
          refine run_copy_z _ _ _ ty 84 ie g _ _ dc ⟨W.heap.size, 0, none⟩ _ sc R1 84 vs.toList Try.underlying89 IE.out.1 hG1 ?_ ?_ ?_ H1V.out
          · rw [IE.out.2.2.1, Array.length_toList, hvs]; simp only [Nat.min_def]; split <;> omega
          · intro j u hu
            rw [show (⟨W.heap.size, 0, none⟩ : Addr).add j = ⟨W.heap.size, j, none⟩ from by unfold Addr.add; split <;> simp_all]
            exact cell_of_block hV1 j (by simpa using hu)
          · rw [Array.length_toList, hvs, hR1s]; omega
        have hO : Only [g] W ((W.alloc (.cells vs 84)).drew.setRow g R2) := ((Only.alloc [g] W _).trans (Only.drew [g] _) (Within.refl _ _)).trans (Only.setRow _ g R2) (Within.refl _ _)
        have hG2 : ((W.alloc (.cells vs 84)).drew.setRow g R2).heap[g]? = some (.cells R2 84 (0, 0)) := setRow_heap _ _ _ _ _ _ HG.out
        have hlen2 : (xs.take (i) ++ vs.toList ++ xs.drop (i)).length = (n + 1) * 1 := by
          simp only [List.length_append, List.length_take, List.length_drop, Array.length_toList, HL.out, hvs]; omega
        have hR2s : R2.size = cap * 1 := by
          rw [HR2.out]
          simp only [List.size_toArray, List.length_append, List.length_take, List.length_drop, Array.length_toList, hR1s, hvs]
          omega
        have htk : R2.toList.take ((n + 1) * 1) = xs.take (i) ++ vs.toList ++ xs.drop (i) := by
          have e1 : R1.toList = cur.toList.take (i + 1) ++ (xs.drop (i) ++ cur.toList.drop (i + 1 + (xs.drop (i)).length)) := by rw [HR1.out]; simp
          have e3 : R1.toList.take (i) = xs.take (i) := by
            rw [e1, List.take_append_of_le_length (by rw [List.length_take, Array.length_toList, HC.out]; omega), List.take_take, ← HX.out, List.take_take]
            congr 1
            omega
          have e4 : R1.toList.drop (i + vs.toList.length) = xs.drop (i) ++ cur.toList.drop (i + 1 + (xs.drop (i)).length) := by
            have e5 : i + vs.toList.length = (cur.toList.take (i + 1)).length := by rw [Array.length_toList, hvs, List.length_take, Array.length_toList, HC.out]; omega
            rw [e1, e5, List.drop_left]
          have e6 : R2.toList = (xs.take (i) ++ vs.toList ++ xs.drop (i)) ++ cur.toList.drop (i + 1 + (xs.drop (i)).length) := by
            rw [HR2.out, ← e3, List.append_assoc _ (xs.drop _), ← e4]
          rw [e6, ← hlen2, List.take_left]
        have HF := Lib.hid (show Sep w ((W.alloc (.cells vs 84)).drew.setRow g R2) (rowRes 84 1 (.slice (some ⟨g, 0, none⟩) (n + 1) cap) (n + 1) (xs.take (i) ++ vs.toList ++ xs.drop (i)) :: l) from by
          refine HS.out.turn ?_
          rintro F ⟨_, rfl⟩
          exact ⟨_, ⟨⟨hlen2, .inr ⟨g, cap, R2, rfl, Nat.zero_le _, hG2, hroom, hcm, hR2s, htk⟩⟩, rfl⟩, hO, Within.refl _ _⟩)
        clear hO hG2 hlen2 hR2s htk hG1 hV1 hR1s hl1 hcp1 HR1 HR2 HS HX HL HG HV HC
        go_wp2_with (at_builtin; refine wpList_copy_runI _ rfl _ _ 89 89 rfl _ _ rfl rfl (hcp2 _ _ _ _ (by omega)) ?_)
        go_ret
        exact ⟨_, _, rfl, HF.out⟩
      · have hcn : cap = n := by omega
        subst hcn
        have hr1 : (cap : Int) < (cap : Int) + 1 := by omega
        have hw1 : IntKind.i64.wrap ((i : Int) + 1) = (i : Int) + 1 := IntWalk.i64_in _ (by omega)
        have hw2 : IntKind.i64.wrap ((cap : Int) + 1) = (cap : Int) + 1 := IntWalk.i64_in _ (by omega)
        have hw3 : IntKind.i64.wrap ((cap : Int) + 1 - (i : Int)) = (cap : Int) + 1 - (i : Int) := IntWalk.i64_in _ (by omega)
        have mixed : Try.prog.follows .mixedOrders = true := by kernel_rfl
        have b5 : (0 : Int) ≤ (i : Int) + 1 := by omega
        have b6 : (i : Int) ≤ (cap : Int) + 1 := by omega
        have b7 : (i : Int) + 1 ≤ (cap : Int) + 1 := by omega
        have b8 : i ≤ cap + 1 := by omega
        have hr3 : i + 1 ≤ cap + 1 := by omega
        have hik : i + (cap + 1 - i) = cap + 1 := by omega
        obtain ⟨W0, hW0⟩ : ∃ W0, W0 = W.alloc (.cells vs 84) := ⟨_, rfl⟩
        have hN : W0.heap.size = W.heap.size + 1 := by rw [hW0]; simp
        have hO0 : Only [] W W0 := by rw [hW0]; exact Only.alloc [] W _
        rw [← hW0] at hbG hbV ⊢
        obtain ⟨G, hG⟩ : ∃ G, G = grownCap W0 (cap + 1) cap 84 := ⟨_, rfl⟩
        obtain ⟨ROW, hROW⟩ : ∃ ROW : Array Value, ROW = (xs.take (i)).toArray ++ Builtin.zeroCells (.pointer none : Value).cells (cap + 1 - i) ++ Builtin.zeroCells (.pointer none : Value).cells (G - (cap + 1)) := ⟨_, rfl⟩
        have hold : (Builtin.firstCells ie.size i (.slice (some ⟨g, 0, none⟩) i cap)).run Try.prog W0.drew = .ok (xs.take (i)).toArray W0.drew := by
          rw [IE.out.2.2.1]
          refine run_firstCells_some W0.drew 1 i ⟨g, 0, none⟩ i cap (xs.take (i)) (by rw [List.length_take, hxl]; omega) ?_
          intro j u hj
          rw [show (⟨g, 0, none⟩ : Addr).add j = ⟨g, j, none⟩ from by unfold Addr.add; split <;> simp_all]
          rw [List.getElem?_take] at hj
          split at hj
          · rw [← htake, List.getElem?_take] at hj
            split at hj
            · exact cell_of_block (w := W0.drew) hbG j (by simpa using hj)
            · cases hj
          · cases hj
        have hrz : ∀ ty, (Builtin.append_ #[89, 3] ty #[.slice (some ⟨g, 0, none⟩) i cap, .int .i64 ((cap : Int) + 1 - (i : Int))]).run Try.prog W0 =
            .ok (.slice (some ⟨W0.heap.size, 0, none⟩) (cap + 1) G) (W0.drew.alloc (.cells ROW 84)) := fun ty => by
          have h := Lib.run_append_grow_zeros W0 89 3 ty 84 ie _ .i64 .i64 Try.underlying89 Try.underlying3 IE.out.1 IE.out.2.1 (some ⟨g, 0, none⟩) i cap (xs.take (i)) hold (cap + 1 - i) (by omega) (by rw [IE.out.2.2.1]; decide) (by omega) (by omega) (by rw [IE.out.2.2.2]; omega) (by rw [IE.out.2.2.2, hik]; exact growslice_fits (by omega) (by omega))
          rw [hik] at h
          rw [hROW, hG, show (cap : Int) + 1 - (i : Int) = ((cap + 1 - i : Nat) : Int) by omega]
          exact h
        obtain ⟨V1, hV1⟩ : ∃ V1, V1 = W0.drew.alloc (.cells ROW 84) := ⟨_, rfl⟩
        rw [← hV1] at hrz
        have HRZ := Lib.hid hrz
        have HS := Lib.hid hs
        have HX := Lib.hid htake
        have HL := Lib.hid hxl
        have HG := Lib.hid hbG
        have HV := Lib.hid hbV
        have HC := Lib.hid hcs
        have H1V := Lib.hid h1v
        have H1X := Lib.hid h1x
        have HROW := Lib.hid hROW
        have HGG := Lib.hid hG
        have HW0 := Lib.hid hW0
        have HO0 := Lib.hid hO0
        have HNN := Lib.hid hN
        have hGn : cap + 1 ≤ G := by rw [hG]; exact grownCap_ge W0 _ _ _
        have hG63 : G ≤ maxLen := by rw [hG]; exact grownCap_le_maxLen W0 (cap + 1) cap 84 (by unfold maxLen; omega)
        have hG63' : G ≤ 9223372036854775807 := by unfold maxLen at hG63; exact hG63
        have hGi : ¬ (G = i) := by omega
        have hGim : ¬ (G = i + 1) := by omega
        clear hrz hs htake hxl hbG hbV hcs h1v h1x hROW hG hW0 hO0 hold hg
        have hVO : Only [] W V1 := by rw [hV1]; exact (HO0.out.trans (Only.drew [] W0) (Within.nil _ _)).trans (Only.alloc [] _ _) (Within.nil _ _)
        have hN1 : V1.heap[W.heap.size + 1]? = some (.cells ROW 84 (0, 0)) := by rw [hV1, ← HNN.out]; exact heap_alloc_self (w := W0.drew)
        have hVV : V1.heap[W.heap.size]? = some (.cells vs 84 (0, 0)) := by rw [hV1]; exact (heap_alloc_lt (w := W0.drew) (by show _ < W0.heap.size; rw [HNN.out]; omega)).trans HV.out
        have hGV : V1.heap[g]? = some (.cells cur 84 (0, 0)) := by rw [hV1]; exact (heap_alloc_lt (w := W0.drew) (by show _ < W0.heap.size; rw [HNN.out]; omega)).trans HG.out
        have hz1 : ∀ k, (Builtin.zeroCells (.pointer none : Value).cells k).toList.length = k * 1 := fun k => by rw [Array.length_toList, size_zeroCells]; rfl
        have hROWs : ROW.size = G * 1 := by
          rw [HROW.out]
          have h1 := hz1 (cap + 1 - i)
          have h2 := hz1 (G - (cap + 1))
          rw [Array.length_toList] at h1 h2
          simp only [Array.size_append, List.size_toArray, h1, h2, List.length_take, HL.out]
          omega
        obtain ⟨A1, hA1⟩ : ∃ A1 : Array Value, A1 = (ROW.toList.take (i) ++ vs.toList ++ ROW.toList.drop (i + vs.toList.length)).toArray := ⟨_, rfl⟩
        have hA1s : A1.size = G * 1 := by
          rw [hA1]
          simp only [List.size_toArray, List.length_append, List.length_take, List.length_drop, Array.length_toList, hROWs, hvs]
          omega
        obtain ⟨A2, hA2⟩ : ∃ A2 : Array Value, A2 = (A1.toList.take (i + 1) ++ xs.drop (i) ++ A1.toList.drop (i + 1 + (xs.drop (i)).length)).toArray := ⟨_, rfl⟩
        have hl1 : (xs.drop (i)).length = cap * 1 - i := by rw [List.length_drop, HL.out]
        have hA2s : A2.size = G * 1 := by
          rw [hA2]
          simp only [List.size_toArray, List.length_append, List.length_take, List.length_drop, Array.length_toList, hA1s, hl1, HL.out]
          omega
        have HA1 := Lib.hid hA1
        have HA2 := Lib.hid hA2
        clear hA1 hA2
        have hcpA : ∀ ty dc sc dl, dl = cap + 1 - i → (Builtin.copy_ #[89, 89] ty #[.slice (some ⟨W.heap.size + 1, i, none⟩) dl dc, .slice (some ⟨W.heap.size, 0, none⟩) 1 sc]).run Try.prog V1 = .ok (goInt (Nat.min 1 dl)) (V1.setRow (W.heap.size + 1) A1) := fun ty dc sc dl hdl => by
          subst hdl
          rw [HA1.out]
          refine run_copy_z _ _ _ ty 84 ie _ _ _ dc ⟨W.heap.size, 0, none⟩ _ sc ROW 84 vs.toList Try.underlying89 IE.out.1 hN1 ?_ ?_ ?_ H1V.out
          · rw [IE.out.2.2.1, Array.length_toList, hvs]; simp only [Nat.min_def]; split <;> omega
          · intro j u hu
            rw [show (⟨W.heap.size, 0, none⟩ : Addr).add j = ⟨W.heap.size, j, none⟩ from by unfold Addr.add; split <;> simp_all]
            exact cell_of_block hVV j (by simpa using hu)
          · rw [Array.length_toList, hvs, hROWs]; omega
        have hN2 : ((V1.setRow (W.heap.size + 1) A1).drew).heap[W.heap.size + 1]? = some (.cells A1 84 (0, 0)) := setRow_heap _ _ _ _ _ _ hN1
        have hG2 : ((V1.setRow (W.heap.size + 1) A1).drew).heap[g]? = some (.cells cur 84 (0, 0)) := (setRow_other _ _ _ _ (by omega)).trans hGV
        have hcpB : ∀ ty dc sc dl sl, dl = cap - i → sl = cap - i → (Builtin.copy_ #[89, 89] ty #[.slice (some ⟨W.heap.size + 1, i + 1, none⟩) dl dc, .slice (some ⟨g, i, none⟩) sl sc]).run Try.prog ((V1.setRow (W.heap.size + 1) A1).drew) = .ok (goInt (Nat.min sl dl)) (((V1.setRow (W.heap.size + 1) A1).drew).setRow (W.heap.size + 1) A2) := fun ty dc sc dl sl hdl hsl => by
          subst hdl hsl
          rw [HA2.out]
          refine run_copy_z _ _ _ ty 84 ie _ _ _ dc ⟨g, i, none⟩ _ sc A1 84 (xs.drop (i)) Try.underlying89 IE.out.1 hN2 ?_ ?_ ?_ (fun u hu => H1X.out u (List.mem_of_mem_drop hu))
          · rw [IE.out.2.2.1, List.length_drop, HL.out]; simp only [Nat.min_def]; split <;> omega
          · intro j u hu
            rw [List.getElem?_drop] at hu
            rw [← HX.out, List.getElem?_take] at hu
            rw [show (⟨g, i, none⟩ : Addr).add j = ⟨g, i + j, none⟩ from by unfold Addr.add; split <;> simp_all]
            split at hu
            · exact cell_of_block hG2 _ (by simpa using hu)
            · cases hu
          · rw [hl1, hA1s]; omega
        have hlen2 : (xs.take (i) ++ vs.toList ++ xs.drop (i)).length = (cap + 1) * 1 := by
          simp only [List.length_append, List.length_take, List.length_drop, Array.length_toList, HL.out, hvs]; omega
        have htk : A2.toList.take ((cap + 1) * 1) = xs.take (i) ++ vs.toList ++ xs.drop (i) := by
          have e0 : ROW.toList = xs.take (i) ++ ((Builtin.zeroCells (.pointer none : Value).cells (cap + 1 - i)).toList ++ (Builtin.zeroCells (.pointer none : Value).cells (G - (cap + 1))).toList) := by rw [HROW.out]; simp
          have e3 : ROW.toList.take (i) = xs.take (i) := by
            rw [e0, List.take_append_of_le_length (by rw [List.length_take, HL.out]; omega), List.take_take]
            congr 1
            omega
          have e1 : A1.toList = (xs.take (i) ++ vs.toList) ++ ROW.toList.drop (i + vs.toList.length) := by rw [HA1.out, ← e3]
          have e4 : A1.toList.take (i + 1) = xs.take (i) ++ vs.toList := by
            have e5 : i + 1 = (xs.take (i) ++ vs.toList).length := by simp only [List.length_append, Array.length_toList, hvs, List.length_take, HL.out]; omega
            rw [e1, e5, List.take_left]
          have e6 : A2.toList = (xs.take (i) ++ vs.toList ++ xs.drop (i)) ++ A1.toList.drop (i + 1 + (xs.drop (i)).length) := by rw [HA2.out, ← e4]
          rw [e6, ← hlen2, List.take_left]
        have hG3 : (((V1.setRow (W.heap.size + 1) A1).drew).setRow (W.heap.size + 1) A2).heap[W.heap.size + 1]? = some (.cells A2 84 (0, 0)) := setRow_heap _ _ _ _ _ _ hN2
        have hOf : Only [] W (((V1.setRow (W.heap.size + 1) A1).drew).setRow (W.heap.size + 1) A2) :=
          (((hVO.mono (G := [W.heap.size + 1]) (by simp)).trans (Only.setRow _ _ _) (Within.refl _ _)).trans (Only.drew [W.heap.size + 1] _) (Within.refl _ _)).trans (Only.setRow _ _ _) (Within.refl _ _) |>.within (fun k hk => by right; simp at hk; omega)
        have HF := Lib.hid (show Sep w (((V1.setRow (W.heap.size + 1) A1).drew).setRow (W.heap.size + 1) A2) (rowRes 84 1 (.slice (some ⟨W.heap.size + 1, 0, none⟩) (cap + 1) G) (cap + 1) (xs.take (i) ++ vs.toList ++ xs.drop (i)) :: l) from by
          refine HS.out.turn ?_
          rintro F ⟨_, rfl⟩
          exact ⟨_, ⟨⟨hlen2, .inr ⟨_, G, A2, rfl, Nat.zero_le _, hG3, hGn, hG63, hA2s, htk⟩⟩, rfl⟩, hOf.mono (by simp), fun k hk => by right; simp [Value.ownBlock] at hk; omega⟩)
        have HA := Lib.hid hcpA
        have HB := Lib.hid hcpB
        clear hcpA hcpB hlen2 htk hG3 hOf hN2 hG2 hN1 hVV hGV hVO hROWs hA1s hA2s hl1 hV1
        go_enter Try.func49, Try.ntmps49
        go_wp2_with (first | (at_builtin; refine Lib.wpList_append_run _ rfl _ _ _ _ rfl _ _ rfl rfl _ _ (HRZ.out _) ?_) | (refine wpList_copy_runI _ rfl _ _ 89 89 rfl _ _ rfl rfl (HA.out _ _ _ _ (by omega)) ?_))
        go_region_law_o (refine step_copy_runI rfl _ _ 89 89 rfl (.slice (some ⟨W.heap.size + 1, i + 1, none⟩) (cap - i) (G - (i + 1))) (.slice (some ⟨g, i, none⟩) (cap - i) (cap - i)) (by simp [Act.eval, Act.put]) (by simp [Act.eval, Act.put]) (HB.out 3 (G - (i + 1)) (cap - i) (cap - i) (cap - i) rfl rfl) ?_)
        go_wp2_with fail
        go_ret
        exact ⟨_, _, rfl, HF.out⟩

set_option maxHeartbeats 1000000 in
set_option maxRecDepth 100000 in
/-- slices.Delete(row, i, i+1). -/
theorem del_ptr {w W : World} {l : List Res} {v : Value} {n : Nat} {xs : List Value} (i : Nat) (h1x : ∀ u ∈ xs, u.oneCell' = true) (hi : i < n) (hn : n ≤ 100000)
    (hs : Sep w W (rowRes 84 1 v n xs :: l)) :
    Calls Try.prog 57 #[v, .int .i64 i, .int .i64 ((i : Int) + 1)] W fun r W' =>
      ∃ p q, r = .returned (.slice p (n - 1) q) ∧ Sep w W' (rowRes 84 1 (.slice p (n - 1) q) (n - 1) (xs.take (i) ++ xs.drop (i + 1)) :: l) := by
  obtain ⟨ie, IE⟩ := info_of Try.infoNode
  have hrow := hs.row
  have hxl := hrow.1
  rcases hrow.2 with ⟨h1, h2⟩ | ⟨g, cap, cur, hv, _, hg, hnc, hcm, hcs, htake⟩
  · exfalso; omega
  subst hv
  have b1 : (0 : Int) ≤ (i : Int) := by omega
  have b2 : (i : Int) < (n : Int) := by omega
  have b3 : (n : Int) ≤ 100000 := by omega
  have b4 : (n : Int) ≤ (cap : Int) := by omega
  have b5 : (i : Int) + 1 ≤ (n : Int) := by omega
  have b6 : (0 : Int) ≤ (i : Int) + 1 := by omega
  have b7 : (i : Int) ≤ (i : Int) + 1 := by omega
  have b8 : i + 1 ≤ n := by omega
  have b9 : ¬ ((i : Int) = (i : Int) + 1) := by omega
  have b10 : i + 1 ≤ cap := by omega
  have b11 : i ≤ cap := by omega
  have b12 : i ≤ n := by omega
  have b13 : n ≤ cap := by omega
  have hcm' : (cap : Int) ≤ 9223372036854775807 := by unfold maxLen at hcm; omega
  have hci : ¬ (cap = i) := by omega
  have hm1 : i + (n - (i + 1)) = n - 1 := by omega
  have hm2 : n - 1 ≤ n := by omega
  have hone : n - (n - 1) = 1 := by omega
  have hm3 : n - 1 ≤ cap := by omega
  have hm4 : ¬ (cap = n - 1) := by omega
  have mixed : Try.prog.follows .mixedOrders = true := by kernel_rfl
  obtain ⟨news, hnews⟩ : ∃ news, news = xs.drop (i + 1) := ⟨_, rfl⟩
  have hnl : news.length = (n - (i + 1)) * 1 := by rw [hnews, List.length_drop, hxl]; omega
  have hmem : ∀ u ∈ news, u.oneCell' = true := fun u hu => h1x u (List.mem_of_mem_drop (by rw [hnews] at hu; exact hu))
  obtain ⟨A, hA⟩ : ∃ A : Addr, (if cap = i + 1 then some (⟨g, 0, none⟩ : Addr) else some ⟨g, i + 1, none⟩) = some A := by
    by_cases h : cap = i + 1
    · exact ⟨_, if_pos h⟩
    · exact ⟨_, if_neg h⟩
  have hsrc : ∀ j u, news[j]? = some u → W.drew.cell? (A.add j) = some u := by
    intro j u hu
    have hj : j < news.length := (List.getElem?_eq_some_iff.1 hu).1
    by_cases hc : cap = i + 1
    · exfalso; rw [hnl] at hj; omega
    · rw [if_neg hc] at hA
      cases hA
      rw [show (⟨g, i + 1, none⟩ : Addr).add j = ⟨g, i + 1 + j, none⟩ from by unfold Addr.add; split <;> simp_all]
      rw [hnews, List.getElem?_drop, ← htake, List.getElem?_take] at hu
      split at hu
      · exact cell_of_block (w := W.drew) hg _ (by simpa using hu)
      · cases hu
  obtain ⟨R1, hR1⟩ : ∃ R1 : Array Value, R1 = (cur.toList.take (i * ie.size) ++ news ++ cur.toList.drop (i * ie.size + news.length)).toArray := ⟨_, rfl⟩
  have happ : ∀ ty c, (Builtin.append_ #[89, 89] ty #[.slice (some ⟨g, 0, none⟩) i cap, .slice (some A) (n - (i + 1)) c]).run Try.prog W.drew = .ok (.slice (some ⟨g, 0, none⟩) (n - 1) cap) (W.drew.setRow g R1) := fun ty c => by
    rw [hR1, ← hm1]
    exact run_append_room W.drew 89 ty 84 ie Try.underlying89 IE.out.1 g i cap cur hg A _ c news (by rw [hnl, IE.out.2.2.1]) hsrc hmem (by omega) (by rw [hnl, IE.out.2.2.1, hcs]; omega)
  rw [IE.out.2.2.1] at hR1
  have hR1s : R1.size = cap * 1 := by
    rw [hR1]
    simp only [List.size_toArray, List.length_append, List.length_take, List.length_drop, Array.length_toList, hcs, hnl]
    omega
  have hG1 : (W.drew.setRow g R1).heap[g]? = some (.cells R1 84 (0, 0)) := setRow_heap _ _ _ _ _ _ hg
  obtain ⟨R2, hR2⟩ : ∃ R2 : Array Value, R2 = (R1.toList.take (n - 1) ++ (Builtin.zeroCells (.pointer none : Value).cells 1).toList ++ R1.toList.drop (n - 1 + 1 * (.pointer none : Value).cells.size)).toArray := ⟨_, rfl⟩
  have hclr : ∀ ty c, (Builtin.clear_ #[89] ty #[.slice (some ⟨g, n - 1, none⟩) 1 c]).run Try.prog (W.drew.setRow g R1) = .ok (.tuple #[]) (W.drew.setRow g R2) := fun ty c => by
    rw [show W.drew.setRow g R2 = (W.drew.setRow g R1).setRow g R2 from (setRow_setRow _ g R1 R2).symm, hR2]
    exact run_clear_z _ _ 84 ty (.pointer none) Try.underlying89 (fun w => by kernel_rfl) (by decide) g _ 1 c R1 _ hG1 (by decide) (by rw [hR1s, show (.pointer none : Value).cells.size = 1 from rfl]; omega)
  have hzl : (Builtin.zeroCells (.pointer none : Value).cells 1).toList.length = 1 := by rw [Array.length_toList, size_zeroCells]; rfl
  have hR2s : R2.size = cap * 1 := by
    rw [hR2, show (.pointer none : Value).cells.size = 1 from rfl]
    simp only [List.size_toArray, List.length_append, List.length_take, List.length_drop, Array.length_toList, hR1s, hzl]
    simp only [Array.length_toList] at hzl
    omega
  have hG2 : (W.drew.setRow g R2).heap[g]? = some (.cells R2 84 (0, 0)) := setRow_heap _ _ _ _ _ _ hg
  have hlen2 : (xs.take (i) ++ xs.drop (i + 1)).length = (n - 1) * 1 := by
    simp only [List.length_append, List.length_take, List.length_drop, hxl]; omega
  have htk : R2.toList.take ((n - 1) * 1) = xs.take (i) ++ xs.drop (i + 1) := by
    have e0 : cur.toList.take (i) = xs.take (i) := by
      rw [← htake, List.take_take]; congr 1; omega
    have e1 : R1.toList = (xs.take (i) ++ xs.drop (i + 1)) ++ cur.toList.drop (i + news.length) := by rw [hR1, ← hnews, ← e0]; try simp
    have e2 : R1.toList.take (n - 1) = xs.take (i) ++ xs.drop (i + 1) := by
      rw [e1, show n - 1 = (xs.take (i) ++ xs.drop (i + 1)).length from by have := hlen2; omega, List.take_left]
    have e3 : R2.toList = (xs.take (i) ++ xs.drop (i + 1)) ++ ((Builtin.zeroCells (.pointer none : Value).cells 1).toList ++ R1.toList.drop (n - 1 + 1 * (.pointer none : Value).cells.size)) := by rw [hR2, ← e2]; simp
    rw [e3, ← hlen2, List.take_left]
  have HF := Lib.hid (show Sep w (W.drew.setRow g R2) (rowRes 84 1 (.slice (some ⟨g, 0, none⟩) (n - 1) cap) (n - 1) (xs.take (i) ++ xs.drop (i + 1)) :: l) from by
    refine hs.turn ?_
    rintro F ⟨_, rfl⟩
    exact ⟨_, ⟨⟨hlen2, .inr ⟨g, cap, R2, rfl, Nat.zero_le _, hG2, by omega, hcm, hR2s, htk⟩⟩, rfl⟩, (Only.drew [g] W).trans (Only.setRow _ g R2) (Within.refl _ _), Within.refl _ _⟩)
  have HAPP := Lib.hid happ
  have HCLR := Lib.hid hclr
  clear happ hclr htk hlen2 hG2 hR2s hzl hR2 hG1 hR1s hR1 hsrc hmem hnl hnews hs hrow hxl hg hcs htake h1x
  go_enter Try.func57, Try.ntmps57
  go_wp2_with fail
  go_region_law_o (refine step_append_runI rfl _ _ 89 89 rfl (.slice (some ⟨g, 0, none⟩) i cap) (.slice (some A) (n - (i + 1)) (cap - (i + 1))) (by simp [Act.eval, Act.put]) (by simp [Act.eval, Act.put, hA]) (HAPP.out _ _) ?_)
  go_wp2_with (refine wpList_clear_run _ rfl _ _ rfl _ rfl (HCLR.out _ _) ?_)
  go_ret
  exact ⟨_, _, rfl, HF.out⟩

set_option maxHeartbeats 1000000 in
set_option maxRecDepth 100000 in
/-- slices.Clone(row). -/
theorem clo_ptr {w W : World} {l : List Res} {p : Option Addr} {m c : Nat} {news : List Value} (hl : news.length = m * 1) (hnews : ∀ j u, news[j]? = some u → ∃ b o, p = some ⟨b, o, none⟩ ∧ W.cell? ⟨b, o + j, none⟩ = some u)
    (h1 : ∀ u ∈ news, u.oneCell' = true) (hm : m ≤ 100000) (hs : Sep w W l) :
    Calls Try.prog 48 #[.slice p m c] W fun r W' => ∃ p' q, r = .returned (.slice p' m q) ∧ Sep w W' (rowRes 84 1 (.slice p' m q) m news :: l) := by
  obtain ⟨ie, IE⟩ := info_of Try.infoNode
  cases p with
  | none =>
    have hn : news = [] := by
      cases news with
      | nil => rfl
      | cons u l => obtain ⟨b, o, he, _⟩ := hnews 0 u rfl; cases he
    subst hn
    obtain rfl : m = 0 := by simp at hl; omega
    have HS := Lib.hid (hs.row_nil 84 1)
    clear hs hnews h1 hl
    have heq := fun (w : World) => Lib.run_eql_slice_nil (P := Try.prog) w 89 84 none 0 c 0 0 Try.underlying89
    go_enter Try.func48, Try.ntmps48
    go_wp2_with fail
    go_ret
    exact ⟨_, _, rfl, HS.out⟩
  | some a =>
    have HN : Hid (∀ j u, news[j]? = some u → ∃ b o, some a = some ⟨b, o, none⟩ ∧ (W.alloc (.cells #[] 84)).cell? ⟨b, o + j, none⟩ = some u) := by
      intro j u hu
      obtain ⟨b, o, he, hc⟩ := hnews j u hu
      exact ⟨b, o, he, Lib.cell?_alloc_some _ hc⟩
    have H1 := Lib.hid h1
    have HL := Lib.hid hl
    have HS := Lib.hid (hs.row_made 84 1)
    clear hs hnews h1 hl
    have heq := fun (w : World) => Lib.run_eql_slice_nil (P := Try.prog) w 89 84 (some a) m c 0 0 Try.underlying89
    go_enter Try.func48, Try.ntmps48
    go_wp2_with (at_builtin; go_must (refine wpList_append_src (w := w) (l := l) (e := 84) rfl (.tmp 5) (.tmp 6) 89 rfl ie _ 1 8 Try.underlying89 IE.out rfl (by decide) _ 0 [] rfl (some a) m c news rfl HL.out HN.out H1.out HS.out (by unfold maxLen; omega) (by omega) ?_))
    intro p2 q2 w2 hs2
    have HS2 := Lib.hid hs2; clear hs2 HS
    go_wp2_with fail
    go_ret
    exact ⟨_, _, rfl, HS2.out⟩

end Go.Proofs.Ytpaffpiaoanegaa
