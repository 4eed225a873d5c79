/-
  What is proved here: slices.DeleteFunc at []lock.waiter, whatever the predicate.
  No condition: each lemma names its own.
-/
import Derived.Test.YtipfjjcokajjjaaDoorLkI
set_option linter.unusedVariables false
set_option linter.unusedSimpArgs false
namespace Go.Proofs.YtipfjjcokajjjaaDoor
open Go.RowKit

theorem Sep.winSet {w W : World} {e : TypeId} {size g o n cap : Nat} {xs : List Value} {l : List Res} (h : Sep w W (winRes e size (.slice (some ⟨g, o, none⟩) n cap) n xs :: l)) (j : Nat) (hj : j < xs.length) (u : Value) :
    Sep w (W.setCell ⟨g, o + j, none⟩ u) (winRes e size (.slice (some ⟨g, o, none⟩) n cap) n (xs.set j u) :: l) := by
  rcases h.win with ⟨q, _⟩ | ⟨g2, o2, cap2, cur, P, S, q, hw⟩
  · cases q
  · simp only [Value.slice.injEq, Option.some.injEq, Addr.mk.injEq] at q
    obtain ⟨⟨rfl, rfl, _⟩, _, rfl⟩ := q
    refine h.winTurn (Only.cellAt W g (o + j) u) (P := P) (S := S) rfl ⟨heap_setCell_self hw.blk, ?_, hw.pre, by rw [List.length_set]; exact hw.len, hw.le, hw.max, hw.room⟩
    rw [Array.toList_setIfInBounds, hw.eq, ← hw.pre, List.append_assoc, List.set_append, if_neg (by omega), Nat.add_sub_cancel_left, List.set_append, if_pos hj, ← List.append_assoc]

theorem set_two (A M R : List Value) (a b : Value) (hm : 2 ≤ M.length) : ((A ++ M ++ R).set A.length a).set (A.length + 1) b = A ++ [a, b] ++ M.drop 2 ++ R := by
  match M, hm with
  | x :: y :: M, _ =>
    rw [List.append_assoc, List.set_append, if_neg (by omega), Nat.sub_self, List.set_append, if_neg (by omega)]
    simp

theorem filter_at {q : HM} {del : Int × Int → Bool} {j : Nat} {x : Int × Int} (h : q[j]? = some x) : (q.take (j + 1)).filter (fun y => !del y) = (q.take j).filter (fun y => !del y) ++ (if del x then [] else [x]) := by
  rw [List.take_add_one, h, List.filter_append]
  cases hd : del x <;> simp [hd]
theorem filter_idx {q : HM} {del : Int × Int → Bool} : ∀ {k : Nat}, k ≤ idxN q del → (q.take k).filter (fun y => !del y) = q.take k := by
  intro k hk
  refine List.filter_eq_self.2 fun x hx => ?_
  have h1 : x ∈ q.takeWhile (fun y => !del y) := by
    have : q.take k = (q.takeWhile (fun y => !del y)).take k := by
      conv => lhs; rw [← List.takeWhile_append_dropWhile (p := fun y => !del y) (l := q)]
      exact List.take_append_of_le_length hk
    rw [this] at hx
    exact List.mem_of_mem_take hx
  exact List.all_eq_true.1 List.all_takeWhile x h1
theorem idxN_at {q : HM} {del : Int × Int → Bool} (h : idxN q del < q.length) : ∃ x, q[idxN q del]? = some x ∧ del x = true := by
  refine ⟨q[idxN q del], List.getElem?_eq_getElem h, ?_⟩
  induction q with
  | nil => simp at h
  | cons y q ih =>
    cases hd : del y with
    | true =>
      have : idxN (y :: q) del = 0 := by unfold idxN; simp [hd]
      simp [this, hd]
    | false =>
      have e : idxN (y :: q) del = idxN q del + 1 := by unfold idxN; simp [hd]
      simp only [e, List.getElem_cons_succ]
      exact ih (by rw [e] at h; simpa using h)

set_option maxRecDepth 100000 in
set_option maxHeartbeats 1000000 in
theorem delf_any {w W : World} {l : List Res} {v : Value} {q : HM} (g : Nat) (lb : Array Value) (del : Int × Int → Bool) (eg : ∀ args w, (callFunc g args).run Tryd.prog w = .ok (.enter g args) w) (hlen : q.length ≤ 100000)
    (hs : Sep w W (winRes 65 2 v q.length (wCells q) :: l)) (hp : ∀ F, (winRes 65 2 v q.length (wCells q)).at' W F → Tells Tryd.prog g lb del F W) :
    Calls Tryd.prog 36 #[v, .func (.func g) #[] lb] W fun e W' => ∃ v', e = .returned v' ∧ Sep w W' (winRes 65 2 v' (q.filter (fun y => !del y)).length (wCells (q.filter (fun y => !del y))) :: l) := by
  obtain ⟨FF, hFF, _⟩ := hs.first
  have hp1 := hp FF hFF
  have hidx := index_any g lb del eg (fun W' x ho => hp1 W' x (ho.mono (by simp))) hlen hs
  have HIDX := Lib.hid hidx
  have HS := Lib.hid hs
  rcases hs.win with ⟨rfl, h0, _⟩ | ⟨gb, o, cap, cur, A, S, rfl, hw⟩
  · have hq : q = [] := List.eq_nil_of_length_eq_zero h0
    subst hq
    clear hs hp hp1 hidx
    go_enter Tryd.func36, Tryd.ntmps36
    go_wp2_with (go_at_call 29; refine HIDX.out.mono ?_; rintro e w2 ⟨rfl, hb'⟩; rw [show idxI [] del = -1 from rfl])
    go_ret
    exact ⟨_, rfl, HS.out.only hb'⟩
  · have hFg : FF = [gb] := by
      rcases hFF with ⟨q, _⟩ | ⟨g2, _, _, _, _, _, q, _, _, _, _, _, _, _, rfl⟩
      · cases q
      · simp only [Value.slice.injEq, Option.some.injEq, Addr.mk.injEq] at q
        rw [q.1.1]
    subst hFg
    have HP := Lib.hid hp1
    obtain ⟨N, hN⟩ : ∃ N, N = q.length := ⟨_, rfl⟩
    have HN := Lib.hid hN
    have hcap : N ≤ cap := by rw [hN]; exact hw.le
    have hcmax := hw.max
    unfold maxLen at hcmax
    rw [← hN] at hlen HS HIDX
    rw [← hN]
    clear hs hp hp1 hidx hFF hw hN
    by_cases hk : idxN q del < N
    · have hi0 : idxI q del = (idxN q del : Int) := by unfold idxI; rw [if_pos (by rw [← HN.out]; exact hk)]
      obtain ⟨K, hK⟩ : ∃ K, K = idxN q del := ⟨_, rfl⟩
      rw [← hK] at hi0 hk
      rw [hi0] at HIDX
      have HK := Lib.hid hK
      clear hK hi0
      have hw1 : IntKind.i64.wrap ((K : Int) + 1) = (K : Int) + 1 := IntWalk.i64_in _ (by omega)
      go_enter Tryd.func36, Tryd.ntmps36
      go_wp2_with (go_at_call 29; refine HIDX.out.mono ?_; rintro e w2 ⟨rfl, hb'⟩)
      have HW2 := Lib.hid (HS.out.only hb')
      have HO2 := Lib.hid (hb'.mono (G := [gb]) (by simp))
      obtain ⟨xk, hxk, hdk⟩ := idxN_at (q := q) (del := del) (by rw [← HK.out, ← HN.out]; exact hk)
      rw [← HK.out] at hxk
      have hkept0 : (q.take K).filter (fun y => !del y) = q.take K := filter_idx (by rw [HK.out]; exact Nat.le_refl _)
      have hkept : (q.take (K + 1)).filter (fun y => !del y) = q.take K := by rw [filter_at hxk, hdk, hkept0]; simp
      have HKEPT := Lib.hid hkept
      have HXK := Lib.hid hxk
      clear hb' HS HIDX hkept0 hkept hxk hdk
      go_loopg [5, 6, 7] N (fun gg s5 s6 _ wr => ∃ (i j : Nat) (mid : List Value), i < j ∧ j ≤ N ∧ N - j ≤ gg ∧ s5 = .int .i64 i ∧ s6 = .int .i64 j ∧ Aside (((q.take j).filter (fun y => !del y)).length = i) ∧ Aside (mid.length = (j - i) * 2) ∧
        Aside (Sep w wr (winRes 65 2 (.slice (some ⟨gb, o, none⟩) N cap) N (wCells ((q.take j).filter (fun y => !del y)) ++ mid ++ wCells (q.drop j)) :: l)) ∧ Aside (Only [gb] W wr))
      case atStart =>
        refine ⟨K, K + 1, wCells [xk], by omega, by omega, by omega, rfl, by go_num, ?_, ?_, ?_, HO2.out⟩
        · show _ = _
          rw [HKEPT.out, List.length_take, ← HN.out, Nat.min_eq_left (by omega)]
        · show _ = _
          rw [wCells_len]; simp
        · show Sep _ _ _
          rw [HKEPT.out, ← wCells_app, ← wCells_app]
          have e : q.take K ++ [xk] ++ q.drop (K + 1) = q := by
            have := List.take_append_drop (K + 1) q
            rw [List.take_add_one, HXK.out] at this
            simpa using this
          rw [e]
          exact HW2.out
      case round =>
        obtain ⟨i, j, mid, hij, hjN, hgg, rfl, rfl, HI, HM, HSW, HO⟩ := hrel
        clear HW2 HO2 HKEPT HXK
        have hwj : IntKind.i64.wrap ((j : Int) + 1) = (j : Int) + 1 := IntWalk.i64_in _ (by omega)
        have hwi : IntKind.i64.wrap ((i : Int) + 1) = (i : Int) + 1 := IntWalk.i64_in _ (by omega)
        by_cases hlt : j < N
        · have hltz : (j : Int) < (N : Int) := by omega
          have hilt : (i : Int) < (N : Int) := by omega
          have b0 : (0 : Int) ≤ (j : Int) := by omega
          have b1 : (0 : Int) ≤ (i : Int) := by omega
          obtain ⟨x, hx⟩ : ∃ x, q[j]? = some x := ⟨q[j]'(by rw [← HN.out]; exact hlt), List.getElem?_eq_getElem _⟩
          have hlen1 : (wCells ((q.take j).filter (fun y => !del y)) ++ mid).length = j * 2 := by
            have h1 : ((q.take j).filter (fun y => !del y)).length = i := HI
            have h2 : mid.length = (j - i) * 2 := HM
            rw [List.length_append, wCells_len, h1, h2]; omega
          obtain ⟨x1, x2⟩ := x
          have hcell : ∀ c u, (wCells (q.drop j))[c]? = some u → (wCells ((q.take j).filter (fun y => !del y)) ++ mid ++ wCells (q.drop j))[j * 2 + c]? = some u := by
            intro c u hu
            rw [List.getElem?_append_right (by omega), hlen1, Nat.add_sub_cancel_left]; exact hu
          have hd0 : (q.drop j)[0]? = some (x1, x2) := by rw [List.getElem?_drop]; exact hx
          have hS2 : Sep w wr (winRes 65 2 (.slice (some ⟨gb, o, none⟩) N cap) N (wCells ((q.take j).filter (fun y => !del y)) ++ mid ++ wCells (q.drop j)) :: l) := HSW
          rcases hS2.win with ⟨q1, _⟩ | ⟨g2, o2, cap2, cur2, A2, S2, q1, hw2⟩
          · cases q1
          simp only [Value.slice.injEq, Option.some.injEq, Addr.mk.injEq] at q1
          obtain ⟨⟨rfl, rfl, _⟩, _, rfl⟩ := q1
          have c0 := (hw2.cell (hcell 0 _ (wCells_at hd0).1)).1
          have c1 := (hw2.cell (hcell 1 _ (wCells_at hd0).2)).1
          rw [Nat.add_zero] at c0
          rw [← Nat.add_assoc] at c1
          simp only at c0 c1
          have hgl := lt_of_block hw2.blk
          have hcall := HP.out (wr.alloc (.cells #[.int .i64 x1, .int .i64 x2] 65)) (x1, x2) ((show Only [gb] W wr from HO).trans (Only.alloc [gb] wr _) (Within.refl _ _))
          have hbk : (wr.alloc (.cells #[.int .i64 x1, .int .i64 x2] 65)).heap[wr.heap.size]? = some (.cells #[.int .i64 x1, .int .i64 x2] 65 (0, 0)) := heap_alloc_self
          have HX := Lib.hid hx
          have HC := Lib.hid hcall
          have HB := Lib.hid hbk
          have HL1 := Lib.hid hlen1
          have HW2 := Lib.hid hw2
          have HGL := Lib.hid hgl
          clear hx hd0 hcell hcall hbk hlen1 hw2 hS2 hgl HP
          cases hdx : del (x1, x2) with
          | true =>
            rw [hdx] at HC
            go_wp2_with fail
            refine HC.out.mono ?_
            rintro e w2 ⟨rfl, hb'⟩
            have HB2 := Lib.hid hb'; clear hb'
            go_wp2_with fail
            go_roundg (N - (j + 1))
            case measure => omega
            case rel =>
              have hO3 : Only [] wr w2 := (Only.alloc [] wr _).trans HB2.out (Within.nil _ _)
              have hf : (q.take (j + 1)).filter (fun y => !del y) = (q.take j).filter (fun y => !del y) := by rw [filter_at HX.out, hdx]; simp
              refine ⟨i, j + 1, mid ++ wCells [(x1, x2)], by omega, by omega, by omega, rfl, by go_num, ?_, ?_, ?_, ?_⟩
              · show _ = _
                rw [hf]; exact HI
              · show _ = _
                have h2 : mid.length = (j - i) * 2 := HM
                rw [List.length_append, wCells_len, h2]; simp; omega
              · show Sep _ _ _
                have e : wCells (q.drop j) = wCells [(x1, x2)] ++ wCells (q.drop (j + 1)) := by
                  rw [← wCells_app]
                  congr 1
                  rw [List.drop_eq_getElem?_toList_append, HX.out]; rfl
                have := (show Sep w wr _ from HSW).only hO3
                rw [e] at this
                rw [hf]
                simpa only [List.append_assoc] using this
              · exact (show Only [gb] W wr from HO).trans (hO3.mono (by simp)) (Within.refl _ _)
          | false =>
            rw [hdx] at HC
            go_wp2_with fail
            refine HC.out.mono ?_
            rintro e w2 ⟨rfl, hb'⟩
            have hbk2 := hb'.keeps HB.out (by simp)
            have d0 := cell_of_block hbk2 0 (v := .int .i64 x1) rfl
            have d1 := cell_of_block hbk2 1 (v := .int .i64 x2) rfl
            have hO3 : Only [] wr w2 := (Only.alloc [] wr _).trans hb' (Within.nil _ _)
            have hS3 := (show Sep w wr (winRes 65 2 (.slice (some ⟨gb, o, none⟩) N cap) N (wCells ((q.take j).filter (fun y => !del y)) ++ mid ++ wCells (q.drop j)) :: l) from HSW).only hO3
            have hW3 := HW2.out.blk
            have hfull : (wCells ((q.take j).filter (fun y => !del y)) ++ mid ++ wCells (q.drop j)).length = N * 2 := HW2.out.len
            have hcl : ∀ c, c < N * 2 → ∃ u, w2.cell? ⟨gb, o + c, none⟩ = some u ∧ w2.frozen? ⟨gb, o + c, none⟩ = false := by
              intro c hc
              obtain ⟨h1, h2⟩ := HW2.out.cell (List.getElem?_eq_getElem (l := wCells ((q.take j).filter (fun y => !del y)) ++ mid ++ wCells (q.drop j)) (i := c) (by omega))
              exact ⟨_, by rw [hO3.cell (p := ⟨gb, o + c, none⟩) HGL.out (by simp)]; exact h1, by rw [hO3.frozen (p := ⟨gb, o + c, none⟩) HGL.out (by simp)]; exact h2⟩
            obtain ⟨u0, e0, f0⟩ := hcl (i * 2) (by omega)
            obtain ⟨u1, e1, f1⟩ := hcl (i * 2 + 1) (by omega)
            rw [← Nat.add_assoc] at e1 f1
            have HB2 := Lib.hid hb'
            have HS3 := Lib.hid hS3
            have HO3 := Lib.hid hO3
            have HF := Lib.hid hfull
            clear hb' hbk2 hO3 hS3 hW3 hfull hcl
            go_wp2_with fail
            go_roundg (N - (j + 1))
            case measure => omega
            case rel =>
              have hf : (q.take (j + 1)).filter (fun y => !del y) = (q.take j).filter (fun y => !del y) ++ [(x1, x2)] := by rw [filter_at HX.out, hdx]; simp
              have hI : ((q.take j).filter (fun y => !del y)).length = i := HI
              have hM : mid.length = (j - i) * 2 := HM
              refine ⟨i + 1, j + 1, mid.drop 2 ++ wCells [(x1, x2)], by omega, by omega, by omega, by go_num, by go_num, ?_, ?_, ?_, ?_⟩
              · show _ = _
                rw [hf, List.length_append, hI]; rfl
              · show _ = _
                rw [List.length_append, wCells_len, List.length_drop, hM]; simp; omega
              · show Sep _ _ _
                have e : wCells (q.drop j) = wCells [(x1, x2)] ++ wCells (q.drop (j + 1)) := by
                  rw [← wCells_app]
                  congr 1
                  rw [List.drop_eq_getElem?_toList_append, HX.out]; rfl
                have h1 := HS3.out.winSet (i * 2) (by rw [HF.out]; omega) (.int .i64 x1)
                have h2 := h1.winSet (i * 2 + 1) (by rw [List.length_set, HF.out]; omega) (.int .i64 x2)
                have hA : (wCells ((q.take j).filter (fun y => !del y))).length = i * 2 := by rw [wCells_len, hI]
                have h3 := set_two (wCells ((q.take j).filter (fun y => !del y))) mid (wCells (q.drop j)) (.int .i64 x1) (.int .i64 x2) (by rw [hM]; omega)
                rw [hA] at h3
                rw [h3, e] at h2
                rw [hf, wCells_app]
                have e2 : wCells [(x1, x2)] = [.int .i64 x1, .int .i64 x2] := rfl
                rw [e2] at h2 ⊢
                simp only [List.append_assoc, Nat.add_assoc] at h2 ⊢
                exact h2
              · exact (((show Only [gb] W wr from HO).trans (HO3.out.mono (by simp)) (Within.refl _ _)).trans (Only.cellAt _ gb _ _) (Within.refl _ _)).trans (Only.cellAt _ gb _ _) (Within.refl _ _)
        · have hjN' : j = N := by omega
          subst hjN'
          have hltz : ¬ ((j : Int) < (j : Int)) := by omega
          have b1 : (0 : Int) ≤ (i : Int) := by omega
          have b2 : (i : Int) ≤ (j : Int) := by omega
          have hci : ¬ (cap = i) := by omega
          have hic : i ≤ cap := by omega
          have bcap : (i : Int) ≤ (cap : Int) := by omega
          have hijn : i ≤ j := by omega
          have hI : ((q.take j).filter (fun y => !del y)).length = i := HI
          have hS2 : Sep w wr (winRes 65 2 (.slice (some ⟨gb, o, none⟩) j cap) j (wCells ((q.take j).filter (fun y => !del y)) ++ mid ++ wCells (q.drop j)) :: l) := HSW
          rcases hS2.win with ⟨q1, _⟩ | ⟨g2, o2, cap2, cur2, A2, S2, q1, hw2⟩
          · cases q1
          simp only [Value.slice.injEq, Option.some.injEq, Addr.mk.injEq] at q1
          obtain ⟨⟨rfl, rfl, _⟩, _, rfl⟩ := q1
          have hkl : (wCells ((q.take j).filter (fun y => !del y))).length = i * 2 := by rw [wCells_len, hI]
          have hqt : q.take j = q := List.take_of_length_le (by rw [← HN.out]; exact Nat.le_refl _)
          obtain ⟨R, hR⟩ : ∃ R : Array Value, R = (cur2.toList.take (o + i * 2) ++ (Builtin.zeroCells (.agg #[.int .i64 0, .int .i64 0] : Value).cells (j - i)).toList ++ cur2.toList.drop (o + i * 2 + (j - i) * 2)).toArray := ⟨_, rfl⟩
          have hfits := hw2.fits
          have hclr : ∀ ty n' c', n' = j - i → (Builtin.clear_ #[59] ty #[.slice (some ⟨gb, o + i * 2, none⟩) n' c']).run Tryd.prog wr = .ok (.tuple #[]) (wr.setRow gb R) := fun ty n' c' hn' => by
            subst hn'
            rw [hR]
            exact run_clear_z (P := Tryd.prog) wr 59 65 ty (.agg #[.int .i64 0, .int .i64 0]) Tryd.underlying59 (fun w => by kernel_rfl) (by simp [Value.cells, Value.oneCell']) gb (o + i * 2) (j - i) c' cur2 65 hw2.blk (by omega) (by simp [Value.cells]; omega)
          have hfin : Sep w (wr.setRow gb R) (winRes 65 2 (.slice (some ⟨gb, o, none⟩) i cap) (q.filter (fun y => !del y)).length (wCells (q.filter (fun y => !del y))) :: l) := by
            rw [hqt] at hI hkl
            have htk : R.toList.take (o + i * 2) = A2 ++ wCells (q.filter (fun y => !del y)) := by
              rw [hR]
              have h1 : (cur2.toList.take (o + i * 2)).length = o + i * 2 := by rw [List.length_take, Array.length_toList]; omega
              simp only [List.append_assoc]
              rw [List.take_append_of_le_length (by rw [h1]; exact Nat.le_refl _), List.take_take, Nat.min_self, hw2.eq, hqt]
              have h2 : (A2 ++ wCells (q.filter (fun y => !del y))).length = o + i * 2 := by rw [List.length_append, hw2.pre, hkl]
              rw [← h2]
              simp only [← List.append_assoc]
              rw [List.append_assoc _ mid, List.append_assoc _ _ S2, List.take_left]
            have hRs : R.toList.length = cur2.size := by
              rw [hR]
              simp only [List.length_append, List.length_take, List.length_drop, Array.length_toList, size_zeroCells]
              simp [Value.cells]
              omega
            refine hS2.winTurn (Only.setRow wr gb R) (cur := R) (P := A2) (S := R.toList.drop (o + i * 2)) (by rw [hI]) ⟨setRow_heap _ _ _ _ _ _ hw2.blk, ?_, hw2.pre, by rw [wCells_len], by rw [hI]; exact hic, hw2.max, ?_⟩
            · rw [← htk, List.take_append_drop]
            · rw [hI, List.length_drop, hRs]
              omega
          have HF := Lib.hid hfin
          have HCL := Lib.hid hclr
          clear hfin hclr hR hS2 hw2 hqt hkl hI
          go_wp2_with (refine wpList_clear_run _ rfl _ _ rfl _ rfl (HCL.out _ (j - i) (cap - i) rfl) ?_)
          go_ret
          exact ⟨_, rfl, HF.out⟩
    · have hi0 : idxI q del = -1 := by unfold idxI; rw [if_neg (by rw [← HN.out]; exact hk)]
      rw [hi0] at HIDX
      have hall : q.filter (fun y => !del y) = q := by
        have h1 : idxN q del = q.length := by have := idxN_le q del; have := HN.out; omega
        have := filter_idx (q := q) (del := del) (k := q.length) (by omega)
        rwa [List.take_length] at this
      rw [hall]
      have HNq := Lib.hid (show q.length = N from HN.out.symm)
      clear hall hi0
      go_enter Tryd.func36, Tryd.ntmps36
      go_wp2_with (go_at_call 29; refine HIDX.out.mono ?_; rintro e w2 ⟨rfl, hb'⟩)
      go_ret
      refine ⟨_, rfl, ?_⟩
      rw [HNq.out]
      exact HS.out.only hb'

end Go.Proofs.YtipfjjcokajjjaaDoor
