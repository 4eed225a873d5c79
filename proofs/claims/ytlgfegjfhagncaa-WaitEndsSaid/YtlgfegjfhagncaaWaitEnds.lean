/-
  What is proved here: the statement WaitEnds.
  No condition.
-/
import Derived.Test.YtlgfegjfhagncaaWaitW
import Derived.ProofKit
import Derived.OpenShut
import Derived.HandedShaped
set_option linter.unusedSimpArgs false
set_option linter.unusedVariables false
namespace Go.Proofs.Ytlgfegjfhagncaa.waitEnds
open Go.RowKit Go.ChangeShapes Go.WideShapes Go.Deep Go.Proofs.Ytlgfegjfhagncaa

theorem lastI_mem {xs : List Int} (h : xs ≠ []) : lastI xs ∈ xs := by
  unfold lastI
  rw [List.getLast?_eq_some_getLast h]
  exact List.getLast_mem h

set_option maxRecDepth 100000 in
set_option maxHeartbeats 8000000 in
theorem walk (sp : Option Addr) (l : Edges) (sq : Nat) (W : World) (hl : ((l.length : Nat) : Int) ≤ 9223372036854775807) (hst : EdgesOk l ∧ EdgesAt W sp l) :
    Calls Try.prog 4 #[.slice sp l.length sq] W fun e w' => e = .returned (.bool true) ∧ Only [] W w' := by
  have HOK := Lib.hid hst.1
  have HE := Lib.hid hst.2
  obtain ⟨it, IT⟩ := info_of Try.infoEdge
  clear hst
  by_cases h60 : 60 < l.length
  · go_enter Try.func4, Try.ntmps4
    go_wp2_with fail
    refine (wakes_any _).mono ?_
    rintro r w1 ⟨rfl, ho⟩
    have HO := Lib.hid ho; clear ho
    go_wp2_with fail
    go_ret
    exact ⟨rfl, HO.out⟩
  · have h60' : l.length ≤ 60 := by omega
    go_enter Try.func4, Try.ntmps4
    go_wp2_with fail
    refine (few_any sq HE.out (by omega)).mono ?_
    rintro r w1 ⟨p1, q1, rfl, he1, ho1⟩
    have HE1 := Lib.hid he1
    have HO1 := Lib.hid ho1
    clear he1 ho1
    go_wp2_with fail
    go_loopw [3, 4] (fun s3 s4 wx => ∃ (i : Nat) (O : Edges) (pk : Option Addr) (qk : Nat), s4 = .int .i64 i ∧ s3 = .slice pk O.length qk ∧ O.length + i ≤ l.length ∧ EdgesOk O ∧ EdgesAt wx pk O ∧ Only [] W wx) (fun _ s4 _ => l.length + 1 - (intOf s4).toNat)
    case atStart => exact ⟨0, l, p1, q1, rfl, rfl, by omega, HOK.out, HE1.out, HO1.out⟩
    case round =>
      obtain ⟨i, O, pk, qk, rfl, rfl, hOi, hok, he, ho⟩ := hrel
      obtain ⟨Wi, rfl⟩ : ∃ Wi, Wi = wr := ⟨_, rfl⟩
      have HK := Lib.hid hok
      have HA := Lib.hid he
      have HO := Lib.hid ho
      have hO : O.length ≤ 60 := by omega
      have hi : (i : Int) ≤ (l.length : Int) := by omega
      clear hok he ho HE1 HO1
      go_wp2_with fail
      refine (few_any qk HA.out (by omega)).mono ?_
      rintro r w2 ⟨p2, q2, rfl, he2, ho2⟩
      have HE2 := Lib.hid he2
      have HA2 := Lib.hid (HA.out.only ho2)
      have HO2 := Lib.hid (HO.out.trans ho2 (Within.nil _ _))
      clear he2 ho2 HA HO
      go_wp2_with fail
      refine (pvictim_any q2 HE2.out HK.out (by omega)).mono ?_
      rintro r w3 ⟨xs, rfl, hc, ho3⟩
      have hxl := hc.le
      have HC := Lib.hid hc
      have HA3 := Lib.hid (HA2.out.only ho3)
      have HO3 := Lib.hid (HO2.out.trans ho3 (Within.nil _ _))
      clear hc ho3 HA2 HO2 HE2
      by_cases h0 : xs = []
      · subst h0
        have hd : decide (([] : List Int) ≠ []) = false := by simp
        rw [hd]
        go_wp2_with fail
        refine (few_any qk HA3.out (by omega)).mono ?_
        rintro r w4 ⟨p4, q4, rfl, he4, ho4⟩
        have HE4 := Lib.hid he4
        have HO4 := Lib.hid (HO3.out.trans ho4 (Within.nil _ _))
        clear he4 ho4
        go_wp2_with fail
        refine (circlel_any q4 HE4.out HK.out (by omega)).mono ?_
        rintro r w5 ⟨ys, p5, q5, rfl, hc5, hi5, ho5⟩
        obtain rfl := hc5.ext (fun _ => Iff.rfl) HC.out
        have HO5 := Lib.hid (HO4.out.trans ho5 (Within.nil _ _))
        clear hc5 hi5 ho5
        simp only [List.length_nil]
        go_wp2_with fail
        refine (wakes_any _).mono ?_
        rintro r w6 ⟨rfl, ho6⟩
        have HO6 := Lib.hid (HO5.out.trans ho6 (Within.nil _ _))
        clear ho6
        go_wp2_with fail
        try rw [Exit.noGoto_ret]
        go_ret
        exact ⟨rfl, HO6.out⟩
      · have hd : decide (xs ≠ []) = true := by simp [h0]
        rw [hd]
        have HV := Lib.hid (lastI_mem h0)
        clear hd h0
        obtain ⟨v, hv⟩ : ∃ v, v = lastI xs := ⟨_, rfl⟩
        rw [← hv] at HV ⊢
        clear hv
        go_wp2_with fail
        refine (few_any qk HA3.out (by omega)).mono ?_
        rintro r w4 ⟨p4, q4, rfl, he4, ho4⟩
        have HE4 := Lib.hid he4
        have HA4 := Lib.hid (HA3.out.only ho4)
        have HO4 := Lib.hid (HO3.out.trans ho4 (Within.nil _ _))
        clear he4 ho4
        go_wp2_with fail
        refine (circlel_any q4 HE4.out HK.out (by omega)).mono ?_
        rintro r w5 ⟨ys, p5, q5, rfl, hc5, hi5, ho5⟩
        obtain rfl := hc5.ext (fun _ => Iff.rfl) HC.out
        have HA5 := Lib.hid (HA4.out.only ho5)
        have HO5 := Lib.hid (HO4.out.trans ho5 (Within.nil _ _))
        clear hc5 hi5 ho5 HA3 HA4 HO3 HO4 HE4
        go_wp2_with fail
        go_loopw [8, 9] (fun s8 s9 wx => ∃ (k : Nat) (S : Edges) (ps : Option Addr) (qs : Nat), k ≤ O.length ∧ s9 = .int .i64 k ∧ s8 = .slice ps S.length qs ∧ S = (O.take k).filter (fun e => e.1 != v) ∧ S.length ≤ k ∧ Sep w5 wx [rowRes 33 2 (.slice ps S.length qs) S.length (edgeCells S)]) (fun _ s9 _ => O.length - (intOf s9).toNat)
        case atStart => exact ⟨0, [], none, 0, Nat.zero_le _, rfl, rfl, by simp, by simp, (Sep.nil w5).row_nil _ _⟩
        case round =>
          obtain ⟨k, S, ps, qs, hk, rfl, rfl, hS, hSk, hs⟩ := hrel
          obtain ⟨wx, rfl⟩ : ∃ wx, wx = wr := ⟨_, rfl⟩
          have HS := Lib.hid hs
          have HSS := Lib.hid hS
          clear hs hS
          by_cases hlt : k < O.length
          · obtain ⟨⟨x, y⟩, he⟩ : ∃ e, O[k]? = some e := ⟨_, List.getElem?_eq_getElem hlt⟩
            obtain ⟨b, o, rfl, _, c0, c1⟩ := (HA5.out.only HS.out.old) k _ he
            simp only at c0 c1
            have HN : Hid ((O.take (k + 1)).filter (fun e => e.1 != v) = S ++ (if (x != v) = true then [(x, y)] else [])) := by
              show _ = _
              rw [List.take_add_one, he, List.filter_append, ← HSS.out]
              congr 1
              by_cases hxv : (x != v) = true
              · rw [if_pos hxv]; simp [hxv]
              · rw [if_neg hxv]; simp [hxv]
            clear he
            by_cases hxv : x = v
            · have hb1 : (x == v) = true := by simp [hxv]
              have hb : (x != v) = false := by rw [bne, hb1]; rfl
              have HN2 : Hid (S = (O.take (k + 1)).filter (fun e => e.1 != v)) := by show _ = _; rw [HN.out, hb]; simp
              clear hxv
              go_wp2_with fail
              go_roundw
              case rel => exact ⟨k + 1, S, ps, qs, by omega, by go_num, rfl, HN2.out, by omega, HS.out⟩
              case measure => simp [intOf]; omega
            · have hb1 : (x == v) = false := by rw [beq_eq_false_iff_ne]; exact hxv
              have hb : (x != v) = true := by rw [bne, hb1]; rfl
              have HN2 : Hid (S ++ [(x, y)] = (O.take (k + 1)).filter (fun e => e.1 != v)) := by show _ = _; rw [HN.out, hb]; simp
              have HAP : Hid (edgeCells (S ++ [(x, y)]) = edgeCells S ++ [.int .i64 x, .int .i64 y]) := by show _ = _; rw [edgeCells_append]; rfl
              have HL : Hid ((S ++ [(x, y)]).length = S.length + 1) := by show _ = _; rw [List.length_append]; rfl
              clear hxv
              go_wp2_with (at_builtin; go_must (refine wpList_append_sep (w := w5) (e := 33) (cs := #[.int .i64 x, .int .i64 y]) rfl (.tmp 55) (.tmp 60) 22 rfl it _ 2 16 Try.underlying22 IT.out rfl (by decide) _ S.length (edgeCells S) rfl rfl (by simp) rfl ?hone HS.out (by unfold maxLen; omega) (by omega) ?_))
              case hone => simp [Value.oneCell']
              intro p6 q6 w6 hs6
              have HS6 : Hid (Sep w5 w6 [rowRes 33 2 (.slice p6 (S ++ [(x, y)]).length q6) (S ++ [(x, y)]).length (edgeCells (S ++ [(x, y)]))]) := by show Sep _ _ _; rw [HAP.out, HL.out]; exact hs6
              have HLI : Hid ((S.length : Int) + 1 = ((S ++ [(x, y)]).length : Int)) := by show _ = _; rw [HL.out]; omega
              clear hs6
              go_wp2_with fail
              go_roundw
              case rel => exact ⟨k + 1, S ++ [(x, y)], p6, q6, by omega, by go_num, by rw [HL.out], HN2.out, by rw [HL.out]; omega, HS6.out⟩
              case measure => simp [intOf]; omega
          · have HF : Hid (S = O.filter (fun e => e.1 != v)) := by show _ = _; have h := HSS.out; rw [List.take_of_length_le (by omega)] at h; exact h
            have HSE := Lib.hid HS.out.edgesAt
            have HSO := Lib.hid (HO5.out.trans HS.out.old (Within.nil _ _))
            have HSK : Hid (EdgesOk S) := by
              intro e he
              rw [HF.out] at he
              exact HK.out e (List.mem_filter.1 he).1
            clear HS HSS HA5 HO5
            have hS2 : S.length ≤ 60 := by omega
            go_wp2_with fail
            refine (few_any qs HSE.out (by omega)).mono ?_
            rintro r w7 ⟨p7, q7, rfl, he7, ho7⟩
            have HE7 := Lib.hid he7
            have HA7 := Lib.hid (HSE.out.only ho7)
            have HO7 := Lib.hid (HSO.out.trans ho7 (Within.nil _ _))
            clear he7 ho7 HSE HSO
            go_wp2_with fail
            refine (circlel_any q7 HE7.out HSK.out (by omega)).mono ?_
            rintro r w8 ⟨zs, p8, q8, rfl, hc8, hi8, ho8⟩
            have HA8 := Lib.hid (HA7.out.only ho8)
            have HO8 := Lib.hid (HO7.out.trans ho8 (Within.nil _ _))
            have hfew := victim_fewer (v := v) (by rw [← HF.out]; exact hc8) HC.out HV.out
            obtain ⟨hf1, hf2⟩ := hfew
            rw [← HF.out] at hf2
            have hf3 : (zs.length : Int) < (ys.length : Int) := by omega
            have HF1 := Lib.hid hf1
            clear hc8 hi8 ho8 HA7 HO7 HE7 hf1
            go_wp2_with fail
            go_roundw
            case rel => exact ⟨i + 1, S, ps, qs, by go_num, rfl, by omega, HSK.out, HA8.out, HO8.out⟩
            case measure => simp [intOf]; omega

theorem own : ownKnob Try.prog.godebug = none := by kernel_rfl
theorem laidOut : laidOutB Try.prog = true := by kernel_rfl

set_option maxRecDepth 100000 in
theorem lifted (os : Os) (started : os.Started) (H : Type) (enc : TypeId × Value → H) :
    ReturnsInHanded {} Try.checked os 4 .any (Rows.waitEndsSpec.pre6 enc Try.prog Try.f4 Rows.waitEndsRow.domain false) (Rows.waitEndsSpec.post enc Try.prog Try.f4 false true false false) := by
  refine returnsInHanded_of_change (C := Try.checked) own started (by kernel_rfl) Try.func4
    (ChangeSpec.witness6 (enc := enc) (C := Try.checked) false ⟨#[], #[.slice none 0 0], []⟩ 8 (by kernel_rfl) (by kernel_rfl) (by kernel_rfl) (by kernel_rfl)) ?_
  intro W base args ds gs before hval0 hW hcnd _
  have hval : ∀ (j : Nat) t v, Try.f4.params[j]? = some t → args[j]? = some v → Value.okWide Try.prog W .any base t v := hval0
  have hW' := hW
  obtain ⟨pp, pq, hA0, hV, rfl, hfz, hnd⟩ := hW
  have hA : DataW.TrodAll enc Try.prog W 0 (fun _ => true) true Try.f4.params.toList args.toList ds pp := hA0
  rw [Try.params4] at hA hval
  obtain ⟨v0, vs0, d0, ds0, p0, q0, hargs, rfl, rfl, h0, r0⟩ := trodAll_cons hA
  obtain ⟨rfl, rfl, rfl⟩ := trodAll_nil r0
  obtain rfl : args = #[v0] := by cases args; simp_all
  obtain ⟨rfl, rfl⟩ := trodVars_none hV
  obtain ⟨sp0, sl0, sq0, rfl, hl0, hst0⟩ := open_edges (W := W) (v := v0) (by
    obtain ⟨a, len, cap, rfl⟩ := okWide_slice Try.underlying22 (hval 0 22 v0 rfl rfl)
    exact ⟨a, len, cap, rfl⟩) h0
  clear hA0 hval0
  simp only [List.append_nil] at hW'
  refine (walk sp0 sl0 sq0 W hl0 hst0).mono fun e W' ⟨he, hg⟩ => ?_
  subst he
  have hb : Below W.heap.size W W' := hg.below (Nat.le_refl _) (by simp)
  have hargs := (trodAll_cons_mk (Below.trod laidOut (by kernel_rfl) (of_decide_eq_true (by kernel_rfl)) h0 hb (fun x hx => hW'.lt x (by simp [hx]))) trodAll_mk0)
  simp only [List.append_nil] at hargs
  exact ⟨_, rfl, _, _, _, [], _, [], hW', trodAll_cons_mk (shut_bool Try.underlying4 _) trodAll_mk0, hargs, rfl, hb.frame _, fun h => by cases h⟩

theorem over : Rows.waitEndsRow.holds Try.pinned (OpenSpec.ofChange Rows.waitEndsSpec) :=
  OpenClaim.holds_of_wide 4 Try.f4 rfl rfl rfl rfl rfl rfl rfl ⟨rfl, rfl, rfl, rfl, rfl⟩ rfl rfl rfl rfl rfl (by kernel_rfl) Try.func4 (by kernel_rfl)
    (of_decide_eq_true (by kernel_rfl)) (by unfold Func.isWrapper; first | (rw [if_pos (by decide +kernel)]; kernel_rfl) | (rw [if_neg (by decide +kernel)]; exact ⟨rfl, rfl⟩))
    (fun os started H enc _ => lifted os started H enc)

theorem proved : Rows.WaitEndsSaid := over
#print axioms proved
end Go.Proofs.Ytlgfegjfhagncaa.waitEnds
