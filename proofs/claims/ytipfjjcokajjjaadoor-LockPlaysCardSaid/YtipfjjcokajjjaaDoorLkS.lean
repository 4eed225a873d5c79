/-
  What is proved here: slices.Insert of one element at []lock.waiter.
  No condition: each lemma names its own.
-/
import Derived.Test.YtipfjjcokajjjaaDoorLkI
import Derived.WalkMore
import Derived.Lib.AppendZerosOnto
import Derived.Shelf.Spec.SlicesInsert
set_option linter.unusedVariables false
set_option linter.unusedSimpArgs false
namespace Go.Proofs.YtipfjjcokajjjaaDoor
open Go.RowKit Go.Lib

theorem Tryd.infoWtr : (Tryd.prog.info? 65).map (fun i => (i.zero, i.size, i.bytes)) = some (some (.agg #[.int .i64 0, .int .i64 0]), 2, 16) := by kernel_rfl

set_option maxHeartbeats 1000000 in
set_option maxRecDepth 100000 in
/-- slices.Insert(window, i, x). -/
theorem insw_raw {w W : World} {l : List Res} {v : Value} {n : Nat} {xs : List Value} (i : Nat) (vs : Array Value) (hvs : vs.size = 2) (h1v : ∀ u ∈ vs.toList, u.oneCell' = true) (h1x : ∀ u ∈ xs, u.oneCell' = true) (hi : i ≤ n) (hn : n ≤ 100000) (hxl : xs.length = n * 2)
    (hs : Sep w W (winRes 65 2 v n xs :: l)) :
    Calls Tryd.prog 31 #[v, .int .i64 i, .slice (some ⟨W.heap.size, 0, none⟩) 1 1] (W.alloc (.cells vs 65)) fun r W' =>
      ∃ v', r = .returned v' ∧ Sep w W' (winRes 65 2 v' (n + 1) (xs.take (i * 2) ++ vs.toList ++ xs.drop (i * 2)) :: l) := by
  obtain ⟨ie, IE⟩ := info_of Tryd.infoWtr
  by_cases hin : i = n
  · subst hin
    have HS := Lib.hid (hs.forget (.cells vs 65))
    have HV := Lib.hid h1v
    have HX := Lib.hid hxl
    have HVS := Lib.hid hvs
    have b1 : (0 : Int) ≤ (i : Int) := by omega
    have b2 : (i : Int) ≤ 100000 := by omega
    have hcn := fun (j : Nat) (u : Value) => cells_of_new (W := W) (cs := vs) (e := 65) j u
    have HCN := Lib.hid hcn
    rcases hs.win with ⟨rfl, rfl, rfl⟩ | ⟨g, o, cap, cur, A, S, rfl, hw⟩
    all_goals
      first
        | have hcap := hw.le
          have hcmax := hw.max
          unfold maxLen at hcmax
          clear hw
        | rw [show ((0 : Nat) : Int) = 0 from rfl]
      clear hs h1v h1x hxl hcn hvs
      go_enter Tryd.func31, Tryd.ntmps31
      go_wp2_with (at_builtin; go_must (refine wpList_append_win (w := w) rfl (.tmp 23) (.tmp 24) 59 rfl 65 ie _ 2 16 Tryd.underlying59 IE.out rfl (by decide) _ _ _ rfl HS.out ⟨W.heap.size, 0, none⟩ 1 1 vs.toList rfl (by decide) (by rw [Array.length_toList, HVS.out]) HCN.out HV.out (by unfold maxLen; omega) (by omega) ?_))
      all_goals
        intro v2 w2 hs2
        have HS2 := Lib.hid hs2
        clear hs2
        go_wp2_with fail
        go_ret
        refine ⟨_, rfl, ?_⟩
        first
          | simpa using HS2.out
          | (rw [List.take_of_length_le (by have := HX.out; omega), List.drop_of_length_le (by have := HX.out; omega), List.append_nil]; exact HS2.out)
  · rcases hs.win with ⟨h1, h2, _⟩ | ⟨g, o, cap, cur, PA, SA, rfl, hwin⟩
    · exfalso; omega
    · have hg := hwin.blk
      have hnc := hwin.le
      have hcm := hwin.max
      have hcs := hwin.size
      have hpre := hwin.pre
      have hroomS := hwin.room
      have htake := hwin.eq
      have hgW := lt_of_block hg
      have hgn : g ≠ W.heap.size := by omega
      have hgn' : W.heap.size ≠ g := by omega
      have hlt : i < n := by omega
      have hi0 : ¬ ((i : Int) = (n : Int)) := by omega
      have b1 : (0 : Int) ≤ (i : Int) := by omega
      have b2 : (i : Int) < (n : Int) := by omega
      have b3 : (n : Int) ≤ 100000 := by omega
      have b4 : (n : Int) ≤ (cap : Int) := by omega
      have hcm' : (cap : Int) ≤ 9223372036854775807 := by unfold maxLen at hcm; omega
      have hbV : (W.alloc (.cells vs 65)).heap[W.heap.size]? = some (.cells vs 65 (0, 0)) := heap_alloc_self
      have hbG : (W.alloc (.cells vs 65)).heap[g]? = some (.cells cur 65 (0, 0)) := by rw [heap_alloc_lt hgW]; exact hg
      have hci : ¬ (cap = i) := by omega
      have hin' : i ≤ n := by omega
      have hic : i ≤ cap := by omega
      by_cases hroom : n + 1 ≤ cap
      · have hr1 : ¬ ((cap : Int) < (n : Int) + 1) := by omega
        have hr2 : ¬ (cap = i + 1) := by omega
        have hr3 : i + 1 ≤ n := by omega
        have hw1 : IntKind.i64.wrap ((i : Int) + 1) = (i : Int) + 1 := IntWalk.i64_in _ (by omega)
        have mixed : Tryd.prog.follows .mixedOrders = true := by kernel_rfl
        have b5 : (0 : Int) ≤ (i : Int) + 1 := by omega
        have b6 : (i : Int) ≤ (n : Int) + 1 := by omega
        have b7 : (i : Int) + 1 ≤ (n : Int) + 1 := by omega
        have b8 : i ≤ n + 1 := by omega
        have hw2 : IntKind.i64.wrap ((n : Int) + 1) = (n : Int) + 1 := IntWalk.i64_in _ (by omega)
        have hov : ∀ lb cb, (callFunc 44 #[.slice (some ⟨W.heap.size, 0, none⟩) 1 1, .slice (some ⟨g, o + (i + 1) * 2, none⟩) lb cb]).run Tryd.prog (W.alloc (.cells vs 65)) = .ok (.value (.bool false)) (W.alloc (.cells vs 65)) := fun lb cb => by
          rw [run_callFunc_extern Tryd.func44 (by kernel_rfl) (by kernel_rfl) (by kernel_rfl) (e := Extern.SlicesOverlaps.overlaps #[59, 59] #[4]) (by kernel_rfl),
            Lib.run_overlaps_apart (W.alloc (.cells vs 65)) 59 4 65 Tryd.underlying59 2 ?sz ⟨W.heap.size, 0, none⟩ ⟨g, o + (i + 1) * 2, none⟩ 1 1 lb cb hgn' 65 65 vs.size cur.size ?s1 ?s2 ?s3 (free_of_block hbV 0) (free_of_block hbV vs.size)]
          case sz => intro w; kernel_rfl
          case s1 => unfold World.shape?; rw [hbV]
          case s2 => unfold World.shape?; rw [hbG]
          case s3 => rw [hcs]; omega
          rfl
        have HOV := Lib.hid hov; clear hov
        have HS := Lib.hid hs
        have HX := Lib.hid htake
        have HL := Lib.hid hxl
        have HG := Lib.hid hbG
        have HV := Lib.hid hbV
        have HC := Lib.hid hcs
        have H1V := Lib.hid h1v
        have H1X := Lib.hid h1x
        have HG0 := Lib.hid hg
        have HGET := Lib.hid (fun (j : Nat) (u : Value) (h : xs[j]? = some u) => hwin.get h)
        have HPRE := Lib.hid hpre
        have HRS := Lib.hid hroomS
        clear hs htake hxl hbG hbV hcs h1v h1x hg hwin hpre hroomS
        go_enter Tryd.func31, Tryd.ntmps31
        go_wp2_with (simp only [HOV.out])
        obtain ⟨R1, hR1⟩ : ∃ R1 : Array Value, R1 = (cur.toList.take (o + (i + 1) * 2) ++ xs.drop (i * 2) ++ cur.toList.drop (o + (i + 1) * 2 + (xs.drop (i * 2)).length)).toArray := ⟨_, rfl⟩
        have HR1 := Lib.hid hR1; clear hR1
        have hcp1 : ∀ ty dc sc dl sl, dl = n - i → sl = n + 1 - i → (Builtin.copy_ #[59, 59] ty #[.slice (some ⟨g, o + (i + 1) * 2, none⟩) dl dc, .slice (some ⟨g, o + i * 2, none⟩) sl sc]).run Tryd.prog (W.alloc (.cells vs 65)).drew = .ok (goInt (Nat.min sl dl)) ((W.alloc (.cells vs 65)).drew.setRow g R1) := fun ty dc sc dl sl hdl hsl => by
          subst hdl hsl
          rw [HR1.out]
          refine run_copy_z _ _ _ ty 65 ie g _ _ dc ⟨g, o + i * 2, none⟩ _ sc cur 65 (xs.drop (i * 2)) Tryd.underlying59 IE.out.1 HG.out ?_ ?_ ?_ (fun u hu => H1X.out u (List.mem_of_mem_drop hu))
          · rw [IE.out.2.2.1, List.length_drop, HL.out]; simp only [Nat.min_def]; split <;> omega
          · intro j u hu
            rw [List.getElem?_drop] at hu
            rw [show (⟨g, o + i * 2, none⟩ : Addr).add j = ⟨g, o + (i * 2 + j), none⟩ from by unfold Addr.add; split <;> simp_all [Nat.add_assoc]]
            exact cell_of_block HG.out _ (HGET.out _ _ hu)
          · rw [List.length_drop, HL.out, HC.out]; have := HRS.out; rw [Nat.sub_mul] at this; omega
        go_region_law_o (refine step_copy_runI rfl _ _ 59 59 rfl _ _ (by simp [Act.eval, Act.put]) (by simp [Act.eval, Act.put]) (hcp1 _ _ _ _ _ (by omega) (by omega)) ?_)
        have hl1 : (xs.drop (i * 2)).length = n * 2 - i * 2 := by rw [List.length_drop, HL.out]
        have hR1s : R1.size = cur.size := by
          have := HC.out
          have hrs := HRS.out
          rw [Nat.sub_mul] at hrs
          rw [HR1.out]
          simp only [List.size_toArray, List.length_append, List.length_take, List.length_drop, hl1, Array.length_toList, HL.out]
          omega
        have hG1 : ((W.alloc (.cells vs 65)).drew.setRow g R1).heap[g]? = some (.cells R1 65 (0, 0)) := setRow_heap _ _ _ _ _ _ HG.out
        have hV1 : ((W.alloc (.cells vs 65)).drew.setRow g R1).heap[W.heap.size]? = some (.cells vs 65 (0, 0)) := (setRow_other _ _ _ _ hgn').trans HV.out
        obtain ⟨R2, hR2⟩ : ∃ R2 : Array Value, R2 = (R1.toList.take (o + i * 2) ++ vs.toList ++ R1.toList.drop (o + i * 2 + vs.toList.length)).toArray := ⟨_, rfl⟩
        have HR2 := Lib.hid hR2; clear hR2
        have hcp2 : ∀ ty dc sc dl, dl = n + 1 - i → (Builtin.copy_ #[59, 59] ty #[.slice (some ⟨g, o + i * 2, none⟩) dl dc, .slice (some ⟨W.heap.size, 0, none⟩) 1 sc]).run Tryd.prog ((W.alloc (.cells vs 65)).drew.setRow g R1) = .ok (goInt (Nat.min 1 dl)) ((W.alloc (.cells vs 65)).drew.setRow g R2) := fun ty dc sc dl hdl => by
          subst hdl
          rw [show (W.alloc (.cells vs 65)).drew.setRow g R2 = ((W.alloc (.cells vs 65)).drew.setRow g R1).setRow g R2 from (setRow_setRow _ g R1 R2).symm, HR2.out]
          refine run_copy_z _ _ _ ty 65 ie g _ _ dc ⟨W.heap.size, 0, none⟩ _ sc R1 65 vs.toList Tryd.underlying59 IE.out.1 hG1 ?_ ?_ ?_ H1V.out
          · rw [IE.out.2.2.1, Array.length_toList, hvs]; simp only [Nat.min_def]; split <;> omega
          · intro j u hu
            rw [show (⟨W.heap.size, 0, none⟩ : Addr).add j = ⟨W.heap.size, j, none⟩ from by unfold Addr.add; split <;> simp_all]
            exact cell_of_block hV1 j (by simpa using hu)
          · rw [Array.length_toList, hvs, hR1s, HC.out]; omega
        have hO : Only [g] W ((W.alloc (.cells vs 65)).drew.setRow g R2) := ((Only.alloc [g] W _).trans (Only.drew [g] _) (Within.refl _ _)).trans (Only.setRow _ g R2) (Within.refl _ _)
        have hG2 : ((W.alloc (.cells vs 65)).drew.setRow g R2).heap[g]? = some (.cells R2 65 (0, 0)) := setRow_heap _ _ _ _ _ _ HG.out
        have hlen2 : (xs.take (i * 2) ++ vs.toList ++ xs.drop (i * 2)).length = (n + 1) * 2 := by
          simp only [List.length_append, List.length_take, List.length_drop, Array.length_toList, HL.out, hvs]; omega
        have htk : R2.toList = PA ++ (xs.take (i * 2) ++ vs.toList ++ xs.drop (i * 2)) ++ SA.drop 2 := by
          have e1 : R1.toList = cur.toList.take (o + (i + 1) * 2) ++ (xs.drop (i * 2) ++ cur.toList.drop (o + (i + 1) * 2 + (xs.drop (i * 2)).length)) := by rw [HR1.out]; simp
          have hP := HPRE.out
          have hXL := HL.out
          have e2 : (PA ++ xs.take (i * 2)).length = o + i * 2 := by rw [List.length_append, hP, List.length_take, hXL]; omega
          have e0 : cur.toList = (PA ++ xs.take (i * 2)) ++ (xs.drop (i * 2) ++ SA) := by
            rw [HX.out]
            conv => lhs; rw [← List.take_append_drop (i * 2) xs]
            simp only [List.append_assoc]
          have hcl : cur.toList.length = o + n * 2 + SA.length := by rw [Array.length_toList]; exact HC.out
          have e3 : R1.toList.take (o + i * 2) = PA ++ xs.take (i * 2) := by
            rw [e1, List.take_append_of_le_length (by rw [List.length_take, hcl]; omega), List.take_take, Nat.min_eq_left (by omega), e0, ← e2, List.take_left]
          have e4 : R1.toList.drop (o + i * 2 + vs.toList.length) = xs.drop (i * 2) ++ cur.toList.drop (o + (i + 1) * 2 + (xs.drop (i * 2)).length) := by
            have hrs := HRS.out
            rw [Nat.sub_mul] at hrs
            have e5 : o + i * 2 + vs.toList.length = (cur.toList.take (o + (i + 1) * 2)).length := by rw [Array.length_toList, hvs, List.length_take, hcl]; omega
            rw [e1, e5, List.drop_left]
          have e7 : cur.toList.drop (o + (i + 1) * 2 + (xs.drop (i * 2)).length) = SA.drop 2 := by
            have e8 : o + (i + 1) * 2 + (xs.drop (i * 2)).length = (PA ++ xs).length + 2 := by rw [List.length_append, hP, hXL, List.length_drop, hXL]; omega
            rw [HX.out, e8, List.drop_append]
            simp
          rw [HR2.out]
          show _ ++ _ ++ _ = _
          rw [e3, e4, e7]
          simp only [List.append_assoc]
        have HF := Lib.hid (show Sep w ((W.alloc (.cells vs 65)).drew.setRow g R2) (winRes 65 2 (.slice (some ⟨g, o, none⟩) (n + 1) cap) (n + 1) (xs.take (i * 2) ++ vs.toList ++ xs.drop (i * 2)) :: l) from
          HS.out.winTurn hO (P := PA) (S := SA.drop 2) rfl ⟨hG2, htk, HPRE.out, hlen2, hroom, hcm, by have hrs := HRS.out; rw [List.length_drop]; rw [Nat.sub_mul] at hrs ⊢; omega⟩)
        clear hO hG2 hlen2 htk hG1 hV1 hR1s hl1 hcp1 HR1 HR2 HS HX HL HG HV HC HPRE HRS HGET
        go_wp2_with (at_builtin; refine wpList_copy_runI _ rfl _ _ 59 59 rfl _ _ rfl rfl (hcp2 _ _ _ _ (by omega)) ?_)
        go_ret
        exact ⟨_, rfl, HF.out⟩
      · have hcn : cap = n := by omega
        subst hcn
        have hr1 : (cap : Int) < (cap : Int) + 1 := by omega
        have hw1 : IntKind.i64.wrap ((i : Int) + 1) = (i : Int) + 1 := IntWalk.i64_in _ (by omega)
        have hw2 : IntKind.i64.wrap ((cap : Int) + 1) = (cap : Int) + 1 := IntWalk.i64_in _ (by omega)
        have hw3 : IntKind.i64.wrap ((cap : Int) + 1 - (i : Int)) = (cap : Int) + 1 - (i : Int) := IntWalk.i64_in _ (by omega)
        have mixed : Tryd.prog.follows .mixedOrders = true := by kernel_rfl
        have b5 : (0 : Int) ≤ (i : Int) + 1 := by omega
        have b6 : (i : Int) ≤ (cap : Int) + 1 := by omega
        have b7 : (i : Int) + 1 ≤ (cap : Int) + 1 := by omega
        have b8 : i ≤ cap + 1 := by omega
        have hr3 : i + 1 ≤ cap + 1 := by omega
        have hik : i + (cap + 1 - i) = cap + 1 := by omega
        obtain ⟨W0, hW0⟩ : ∃ W0, W0 = W.alloc (.cells vs 65) := ⟨_, rfl⟩
        have hN : W0.heap.size = W.heap.size + 1 := by rw [hW0]; simp
        have hO0 : Only [] W W0 := by rw [hW0]; exact Only.alloc [] W _
        rw [← hW0] at hbG hbV ⊢
        obtain ⟨G, hG⟩ : ∃ G, G = grownCap W0 (cap + 1) cap 65 := ⟨_, rfl⟩
        obtain ⟨ROW, hROW⟩ : ∃ ROW : Array Value, ROW = (xs.take (i * 2)).toArray ++ Builtin.zeroCells (.agg #[.int .i64 0, .int .i64 0] : Value).cells (cap + 1 - i) ++ Builtin.zeroCells (.agg #[.int .i64 0, .int .i64 0] : Value).cells (G - (cap + 1)) := ⟨_, rfl⟩
        have hold : (Builtin.firstCells ie.size i (.slice (some ⟨g, o, none⟩) i cap)).run Tryd.prog W0.drew = .ok (xs.take (i * 2)).toArray W0.drew := by
          rw [IE.out.2.2.1]
          refine run_firstCells_some W0.drew 2 i ⟨g, o, none⟩ i cap (xs.take (i * 2)) (by rw [List.length_take, hxl]; omega) ?_
          intro j u hj
          rw [show (⟨g, o, none⟩ : Addr).add j = ⟨g, o + j, none⟩ from by unfold Addr.add; split <;> simp_all]
          rw [List.getElem?_take] at hj
          split at hj
          · exact cell_of_block (w := W0.drew) hbG _ (hwin.get hj)
          · cases hj
        have hrz : ∀ ty, (Builtin.append_ #[59, 3] ty #[.slice (some ⟨g, o, none⟩) i cap, .int .i64 ((cap : Int) + 1 - (i : Int))]).run Tryd.prog W0 =
            .ok (.slice (some ⟨W0.heap.size, 0, none⟩) (cap + 1) G) (W0.drew.alloc (.cells ROW 65)) := fun ty => by
          have h := Lib.run_append_grow_zeros W0 59 3 ty 65 ie _ .i64 .i64 Tryd.underlying59 Tryd.underlying3 IE.out.1 IE.out.2.1 (some ⟨g, o, none⟩) i cap (xs.take (i * 2)) hold (cap + 1 - i) (by omega) (by rw [IE.out.2.2.1]; decide) (by omega) (by omega) (by rw [IE.out.2.2.2]; omega) (by rw [IE.out.2.2.2, hik]; exact growslice_fits (by omega) (by omega))
          rw [hik] at h
          rw [hROW, hG, show (cap : Int) + 1 - (i : Int) = ((cap + 1 - i : Nat) : Int) by omega]
          exact h
        obtain ⟨V1, hV1⟩ : ∃ V1, V1 = W0.drew.alloc (.cells ROW 65) := ⟨_, rfl⟩
        rw [← hV1] at hrz
        have HRZ := Lib.hid hrz
        have HS := Lib.hid hs
        have HX := Lib.hid htake
        have HL := Lib.hid hxl
        have HG := Lib.hid hbG
        have HV := Lib.hid hbV
        have HC := Lib.hid hcs
        have H1V := Lib.hid h1v
        have H1X := Lib.hid h1x
        have HROW := Lib.hid hROW
        have HGG := Lib.hid hG
        have HW0 := Lib.hid hW0
        have HO0 := Lib.hid hO0
        have HNN := Lib.hid hN
        have hGn : cap + 1 ≤ G := by rw [hG]; exact grownCap_ge W0 _ _ _
        have hG63 : G ≤ maxLen := by rw [hG]; exact grownCap_le_maxLen W0 (cap + 1) cap 65 (by unfold maxLen; omega)
        have hG63' : G ≤ 9223372036854775807 := by unfold maxLen at hG63; exact hG63
        have hGi : ¬ (G = i) := by omega
        have hGim : ¬ (G = i + 1) := by omega
        have HGET := Lib.hid (fun (j : Nat) (u : Value) (h : xs[j]? = some u) => hwin.get h)
        clear hrz hs htake hxl hbG hbV hcs h1v h1x hROW hG hW0 hO0 hold hg hwin hpre hroomS
        have hVO : Only [] W V1 := by rw [hV1]; exact (HO0.out.trans (Only.drew [] W0) (Within.nil _ _)).trans (Only.alloc [] _ _) (Within.nil _ _)
        have hN1 : V1.heap[W.heap.size + 1]? = some (.cells ROW 65 (0, 0)) := by rw [hV1, ← HNN.out]; exact heap_alloc_self (w := W0.drew)
        have hVV : V1.heap[W.heap.size]? = some (.cells vs 65 (0, 0)) := by rw [hV1]; exact (heap_alloc_lt (w := W0.drew) (by show _ < W0.heap.size; rw [HNN.out]; omega)).trans HV.out
        have hGV : V1.heap[g]? = some (.cells cur 65 (0, 0)) := by rw [hV1]; exact (heap_alloc_lt (w := W0.drew) (by show _ < W0.heap.size; rw [HNN.out]; omega)).trans HG.out
        have hz1 : ∀ k, (Builtin.zeroCells (.agg #[.int .i64 0, .int .i64 0] : Value).cells k).toList.length = k * 2 := fun k => by rw [Array.length_toList, size_zeroCells]; rfl
        have hROWs : ROW.size = G * 2 := by
          rw [HROW.out]
          have h1 := hz1 (cap + 1 - i)
          have h2 := hz1 (G - (cap + 1))
          rw [Array.length_toList] at h1 h2
          simp only [Array.size_append, List.size_toArray, h1, h2, List.length_take, HL.out]
          omega
        obtain ⟨A1, hA1⟩ : ∃ A1 : Array Value, A1 = (ROW.toList.take (i * 2) ++ vs.toList ++ ROW.toList.drop (i * 2 + vs.toList.length)).toArray := ⟨_, rfl⟩
        have hA1s : A1.size = G * 2 := by
          rw [hA1]
          simp only [List.size_toArray, List.length_append, List.length_take, List.length_drop, Array.length_toList, hROWs, hvs]
          omega
        obtain ⟨A2, hA2⟩ : ∃ A2 : Array Value, A2 = (A1.toList.take ((i + 1) * 2) ++ xs.drop (i * 2) ++ A1.toList.drop ((i + 1) * 2 + (xs.drop (i * 2)).length)).toArray := ⟨_, rfl⟩
        have hl1 : (xs.drop (i * 2)).length = cap * 2 - i * 2 := by rw [List.length_drop, HL.out]
        have hA2s : A2.size = G * 2 := by
          rw [hA2]
          simp only [List.size_toArray, List.length_append, List.length_take, List.length_drop, Array.length_toList, hA1s, hl1, HL.out]
          omega
        have HA1 := Lib.hid hA1
        have HA2 := Lib.hid hA2
        clear hA1 hA2
        have hcpA : ∀ ty dc sc dl, dl = cap + 1 - i → (Builtin.copy_ #[59, 59] ty #[.slice (some ⟨W.heap.size + 1, i * 2, none⟩) dl dc, .slice (some ⟨W.heap.size, 0, none⟩) 1 sc]).run Tryd.prog V1 = .ok (goInt (Nat.min 1 dl)) (V1.setRow (W.heap.size + 1) A1) := fun ty dc sc dl hdl => by
          subst hdl
          rw [HA1.out]
          refine run_copy_z _ _ _ ty 65 ie _ _ _ dc ⟨W.heap.size, 0, none⟩ _ sc ROW 65 vs.toList Tryd.underlying59 IE.out.1 hN1 ?_ ?_ ?_ H1V.out
          · rw [IE.out.2.2.1, Array.length_toList, hvs]; simp only [Nat.min_def]; split <;> omega
          · intro j u hu
            rw [show (⟨W.heap.size, 0, none⟩ : Addr).add j = ⟨W.heap.size, j, none⟩ from by unfold Addr.add; split <;> simp_all]
            exact cell_of_block hVV j (by simpa using hu)
          · rw [Array.length_toList, hvs, hROWs]; omega
        have hN2 : ((V1.setRow (W.heap.size + 1) A1).drew).heap[W.heap.size + 1]? = some (.cells A1 65 (0, 0)) := setRow_heap _ _ _ _ _ _ hN1
        have hG2 : ((V1.setRow (W.heap.size + 1) A1).drew).heap[g]? = some (.cells cur 65 (0, 0)) := (setRow_other _ _ _ _ (by omega)).trans hGV
        have hcpB : ∀ ty dc sc dl sl, dl = cap - i → sl = cap - i → (Builtin.copy_ #[59, 59] ty #[.slice (some ⟨W.heap.size + 1, (i + 1) * 2, none⟩) dl dc, .slice (some ⟨g, o + i * 2, none⟩) sl sc]).run Tryd.prog ((V1.setRow (W.heap.size + 1) A1).drew) = .ok (goInt (Nat.min sl dl)) (((V1.setRow (W.heap.size + 1) A1).drew).setRow (W.heap.size + 1) A2) := fun ty dc sc dl sl hdl hsl => by
          subst hdl hsl
          rw [HA2.out]
          refine run_copy_z _ _ _ ty 65 ie _ _ _ dc ⟨g, o + i * 2, none⟩ _ sc A1 65 (xs.drop (i * 2)) Tryd.underlying59 IE.out.1 hN2 ?_ ?_ ?_ (fun u hu => H1X.out u (List.mem_of_mem_drop hu))
          · rw [IE.out.2.2.1, List.length_drop, HL.out]; simp only [Nat.min_def]; split <;> omega
          · intro j u hu
            rw [List.getElem?_drop] at hu
            rw [show (⟨g, o + i * 2, none⟩ : Addr).add j = ⟨g, o + (i * 2 + j), none⟩ from by unfold Addr.add; split <;> simp_all [Nat.add_assoc]]
            exact cell_of_block hG2 _ (HGET.out _ _ hu)
          · rw [hl1, hA1s]; omega
        have hlen2 : (xs.take (i * 2) ++ vs.toList ++ xs.drop (i * 2)).length = (cap + 1) * 2 := by
          simp only [List.length_append, List.length_take, List.length_drop, Array.length_toList, HL.out, hvs]; omega
        have htk : A2.toList = [] ++ (xs.take (i * 2) ++ vs.toList ++ xs.drop (i * 2)) ++ A1.toList.drop ((i + 1) * 2 + (xs.drop (i * 2)).length) := by
          have e0 : ROW.toList = xs.take (i * 2) ++ ((Builtin.zeroCells (.agg #[.int .i64 0, .int .i64 0] : Value).cells (cap + 1 - i)).toList ++ (Builtin.zeroCells (.agg #[.int .i64 0, .int .i64 0] : Value).cells (G - (cap + 1))).toList) := by rw [HROW.out]; simp
          have e3 : ROW.toList.take (i * 2) = xs.take (i * 2) := by
            rw [e0, List.take_append_of_le_length (by rw [List.length_take, HL.out]; omega), List.take_take]
            congr 1
            omega
          have e1 : A1.toList = (xs.take (i * 2) ++ vs.toList) ++ ROW.toList.drop (i * 2 + vs.toList.length) := by rw [HA1.out, ← e3]
          have e4 : A1.toList.take ((i + 1) * 2) = xs.take (i * 2) ++ vs.toList := by
            have e5 : (i + 1) * 2 = (xs.take (i * 2) ++ vs.toList).length := by simp only [List.length_append, Array.length_toList, hvs, List.length_take, HL.out]; omega
            rw [e1, e5, List.take_left]
          rw [HA2.out, ← e4]; simp
        have hG3 : (((V1.setRow (W.heap.size + 1) A1).drew).setRow (W.heap.size + 1) A2).heap[W.heap.size + 1]? = some (.cells A2 65 (0, 0)) := setRow_heap _ _ _ _ _ _ hN2
        have hOf : Only [] W (((V1.setRow (W.heap.size + 1) A1).drew).setRow (W.heap.size + 1) A2) :=
          (((hVO.mono (G := [W.heap.size + 1]) (by simp)).trans (Only.setRow _ _ _) (Within.refl _ _)).trans (Only.drew [W.heap.size + 1] _) (Within.refl _ _)).trans (Only.setRow _ _ _) (Within.refl _ _) |>.within (fun k hk => by right; simp at hk; omega)
        have hSl : (G - (cap + 1)) * 2 ≤ (A1.toList.drop ((i + 1) * 2 + (xs.drop (i * 2)).length)).length := by
          rw [List.length_drop, Array.length_toList, hA1s, hl1, Nat.sub_mul]; omega
        have HF := Lib.hid (show Sep w (((V1.setRow (W.heap.size + 1) A1).drew).setRow (W.heap.size + 1) A2) (winRes 65 2 (.slice (some ⟨W.heap.size + 1, 0, none⟩) (cap + 1) G) (cap + 1) (xs.take (i * 2) ++ vs.toList ++ xs.drop (i * 2)) :: l) from
          (HS.out.tail).winMade hOf (P := []) (S := A1.toList.drop ((i + 1) * 2 + (xs.drop (i * 2)).length)) ⟨hG3, htk, rfl, hlen2, hGn, hG63, hSl⟩ (by omega))
        have HA := Lib.hid hcpA
        have HB := Lib.hid hcpB
        clear hcpA hcpB hlen2 htk hG3 hOf hN2 hG2 hN1 hVV hGV hVO hROWs hA1s hA2s hl1 hV1 hSl
        go_enter Tryd.func31, Tryd.ntmps31
        go_wp2_with (first | (at_builtin; refine Lib.wpList_append_run _ rfl _ _ _ _ rfl _ _ rfl rfl _ _ (HRZ.out _) ?_) | (refine wpList_copy_runI _ rfl _ _ 59 59 rfl _ _ rfl rfl (HA.out _ _ _ _ (by omega)) ?_))
        go_region_law_o (refine step_copy_runI rfl _ _ 59 59 rfl (.slice (some ⟨W.heap.size + 1, (i + 1) * 2, none⟩) (cap - i) (G - (i + 1))) (.slice (some ⟨g, o + i * 2, none⟩) (cap - i) (cap - i)) (by simp [Act.eval, Act.put]) (by simp [Act.eval, Act.put]) (HB.out 3 (G - (i + 1)) (cap - i) (cap - i) (cap - i) rfl rfl) ?_)
        go_wp2_with fail
        go_ret
        exact ⟨_, rfl, HF.out⟩


/-- slices.Insert of a holder with its mode. -/
theorem ins_any {w W : World} {l : List Res} {v : Value} {q : HM} (i : Nat) (y : Int × Int) (hi : i ≤ q.length) (hn : q.length ≤ 100000) (hs : Sep w W (winRes 65 2 v q.length (wCells q) :: l)) :
    Calls Tryd.prog 31 #[v, .int .i64 i, .slice (some ⟨W.heap.size, 0, none⟩) 1 1] (W.alloc (.cells #[.int .i64 y.1, .int .i64 y.2] 65)) fun r W' =>
      ∃ v', r = .returned v' ∧ Sep w W' (winRes 65 2 v' (insL q i y).length (wCells (insL q i y)) :: l) := by
  refine (insw_raw i #[.int .i64 y.1, .int .i64 y.2] rfl (by simp [Value.oneCell']) wCells_one hi hn (wCells_len q) hs).mono ?_
  rintro r W' ⟨v', rfl, h⟩
  refine ⟨v', rfl, ?_⟩
  have e1 : (insL q i y).length = q.length + 1 := by rw [(insL_perm q i y).length_eq]; rfl
  have e2 : wCells (insL q i y) = (wCells q).take (i * 2) ++ (#[Value.int .i64 y.1, .int .i64 y.2]).toList ++ (wCells q).drop (i * 2) := by
    unfold insL
    rw [wCells_app, wCells_take, wCells_drop, List.append_assoc]
    rfl
  rw [e1, e2]
  exact h

end Go.Proofs.YtipfjjcokajjjaaDoor
