/-
  What is proved here: the statement WaitLeads.
  No condition.
-/
import Derived.Test.YtlgfegjfhagncaaWaitW
import Derived.ProofKit
import Derived.OpenShut
import Derived.HandedShaped
set_option linter.unusedSimpArgs false
set_option linter.unusedVariables false
namespace Go.Proofs.Ytlgfegjfhagncaa.waitLeads
open Go.RowKit Go.ChangeShapes Go.WideShapes Go.Deep Go.Proofs.Ytlgfegjfhagncaa

theorem any_next {xs : List Int} {k : Nat} {y z : Int} (h : xs[k]? = some y) : (xs.take (k + 1)).any (fun y => y == z) = ((xs.take k).any (fun y => y == z) || y == z) := by
  rw [List.take_add_one, h, List.any_append]; simp

theorem leads_to {l : Edges} {a : Int} {xs : List Int} (h : IsReach l a xs) {e : Int × Int} (he : e ∈ l) (hA : (e.1 == a || xs.any (fun y => y == e.1)) = true) : xs.any (fun y => y == e.2) = true := by
  simp only [Bool.or_eq_true, beq_iff_eq, List.any_eq_true] at hA ⊢
  refine ⟨e.2, (h.2 _).2 ?_, rfl⟩
  rcases hA with rfl | ⟨y, hy, rfl⟩
  · exact .one he
  · exact .more ((h.2 _).1 hy) he

set_option maxRecDepth 100000 in
set_option maxHeartbeats 4000000 in
theorem walk (sp : Option Addr) (l : Edges) (sq : Nat) (a : Int) (W : World) (hl : ((l.length : Nat) : Int) ≤ 9223372036854775807) (hst : EdgesOk l ∧ EdgesAt W sp l) (_ha : -9223372036854775808 ≤ a ∧ a ≤ 9223372036854775807) :
    Calls Try.prog 6 #[.slice sp l.length sq, .int .i64 a] W fun e w' => e = .returned (.bool true) ∧ Only [] W w' := by
  have HOK := Lib.hid hst.1
  have HE := Lib.hid hst.2
  clear hst
  by_cases h60 : 60 < l.length
  · go_enter Try.func6, Try.ntmps6
    go_wp2_with fail
    refine (wakes_any _).mono ?_
    rintro r w1 ⟨rfl, ho⟩
    have HO := Lib.hid ho; clear ho
    go_wp2_with fail
    go_ret
    exact ⟨rfl, HO.out⟩
  · go_enter Try.func6, Try.ntmps6
    go_wp2_with fail
    refine (few_any sq HE.out (by omega)).mono ?_
    rintro r w1 ⟨p1, q1, rfl, he1, ho1⟩
    have HE1 := Lib.hid he1
    have HO1 := Lib.hid ho1
    clear he1 ho1
    go_wp2_with fail
    refine (reachl_any q1 HE1.out HOK.out (by omega) a).mono ?_
    rintro r w2 ⟨xs, p2, q2, rfl, hr, hi2, ho2⟩
    have hxl := hr.le
    have HR := Lib.hid hr
    have HI := Lib.hid hi2
    have HO2 := Lib.hid (HO1.out.trans ho2 (Within.nil _ _))
    clear hr hi2 ho2 HO1 HE1
    go_wp2_with fail
    go_loopw [6] (fun s6 wr => ∃ i : Nat, i ≤ l.length ∧ s6 = .int .i64 i ∧ Only [] w2 wr) (fun s6 _ => l.length - (intOf s6).toNat)
    case atStart => exact ⟨0, Nat.zero_le _, rfl, Only.refl _ _⟩
    case round =>
      obtain ⟨i, hi, rfl, ho⟩ := hrel
      obtain ⟨Wi, rfl⟩ : ∃ Wi, Wi = wr := ⟨_, rfl⟩
      have HO := Lib.hid ho; clear ho
      by_cases hlt : i < l.length
      · obtain ⟨⟨x, y⟩, he⟩ : ∃ e, l[i]? = some e := ⟨_, List.getElem?_eq_getElem hlt⟩
        obtain ⟨b, o, hsp, hb, c0, c1⟩ := (HE.out.only (HO2.out.trans HO.out (Within.nil _ _))) i _ he
        have HX := Lib.hid he
        have HC := Lib.hid (And.intro c0 c1)
        have hb2 : b < Wi.heap.size := hb
        subst hsp
        simp only at c0
        clear he c1 hb
        go_wp2_with fail
        clear c0
        go_loopw [7, 8] (fun s7 s8 wx => ∃ (k : Nat) (A : Bool), k ≤ xs.length ∧ s8 = .int .i64 k ∧ s7 = .bool A ∧ A = (x == a || (xs.take k).any (fun z => z == x)) ∧ Only [] Wi wx) (fun _ s8 _ => xs.length - (intOf s8).toNat)
        case atStart => exact ⟨0, x == a, Nat.zero_le _, rfl, rfl, by simp, Only.refl _ _⟩
        case round =>
          obtain ⟨k, A, hk, rfl, rfl, hA, hox⟩ := hrel
          obtain ⟨wx, rfl⟩ : ∃ wx, wx = wr := ⟨_, rfl⟩
          have HOX := Lib.hid hox; clear hox
          by_cases hkl : k < xs.length
          · obtain ⟨z, hz⟩ : ∃ z, xs[k]? = some z := ⟨_, List.getElem?_eq_getElem hkl⟩
            obtain ⟨bz, oz, rfl, _, cz⟩ := (HI.out.only (HO.out.trans HOX.out (Within.nil _ _))) k z hz
            have cx : wx.cell? ⟨b, o + i * 2, none⟩ = some (.int .i64 x) := by rw [HOX.out.cell hb2 (by simp)]; exact HC.out.1
            have HAN : Hid ((A || z == x) = (x == a || (xs.take (k + 1)).any (fun z => z == x))) := by
              show _ = _; rw [any_next hz, hA, Bool.or_assoc]
            clear hA hz
            cases A with
            | true =>
              simp only [Bool.true_or] at HAN
              go_wp2_with fail
              go_quiet (fail)
              go_wp2_with fail
              go_roundw
              case rel => exact ⟨k + 1, true, by omega, by go_num, rfl, HAN.out, HOX.out.trans (Only.drewN [] _ _) (Within.nil _ _)⟩
              case measure => simp [intOf]; omega
            | false =>
              simp only [Bool.false_or] at HAN
              go_wp2_with fail
              go_quiet (fail)
              go_wp2_with fail
              go_roundw
              case rel => exact ⟨k + 1, z == x, by omega, by go_num, rfl, HAN.out, HOX.out.trans (Only.drewN [] _ _) (Within.nil _ _)⟩
              case measure => simp [intOf]; omega
          · rw [List.take_of_length_le (by omega)] at hA
            have HA := Lib.hid hA; clear hA
            go_wp2_with fail
            go_loopw [9, 10] (fun s9 s10 wy => ∃ (k : Nat) (B : Bool), k ≤ xs.length ∧ s10 = .int .i64 k ∧ s9 = .bool B ∧ B = (xs.take k).any (fun z => z == y) ∧ Only [] Wi wy) (fun _ s10 _ => xs.length - (intOf s10).toNat)
            case atStart => exact ⟨0, false, Nat.zero_le _, rfl, rfl, by simp, HOX.out⟩
            case round =>
              obtain ⟨k2, B, hk2, rfl, rfl, hB, hoy⟩ := hrel
              obtain ⟨wy, rfl⟩ : ∃ wy, wy = wr := ⟨_, rfl⟩
              have HOY := Lib.hid hoy; clear hoy
              by_cases hkl2 : k2 < xs.length
              · obtain ⟨z, hz⟩ : ∃ z, xs[k2]? = some z := ⟨_, List.getElem?_eq_getElem hkl2⟩
                obtain ⟨bz, oz, rfl, _, cz⟩ := (HI.out.only (HO.out.trans HOY.out (Within.nil _ _))) k2 z hz
                have cx : wy.cell? ⟨b, o + i * 2 + 1, none⟩ = some (.int .i64 y) := by rw [HOY.out.cell hb2 (by simp)]; exact HC.out.2
                have HBN : Hid ((B || z == y) = (xs.take (k2 + 1)).any (fun z => z == y)) := by
                  show _ = _; rw [any_next hz, hB]
                clear hB hz
                cases B with
                | true =>
                  simp only [Bool.true_or] at HBN
                  go_wp2_with fail
                  go_quiet (fail)
                  go_wp2_with fail
                  go_roundw
                  case rel => exact ⟨k2 + 1, true, by omega, by go_num, rfl, HBN.out, HOY.out.trans (Only.drewN [] _ _) (Within.nil _ _)⟩
                  case measure => simp [intOf]; omega
                | false =>
                  simp only [Bool.false_or] at HBN
                  go_wp2_with fail
                  go_quiet (fail)
                  go_wp2_with fail
                  go_roundw
                  case rel => exact ⟨k2 + 1, z == y, by omega, by go_num, rfl, HBN.out, HOY.out.trans (Only.drewN [] _ _) (Within.nil _ _)⟩
                  case measure => simp [intOf]; omega
              · rw [List.take_of_length_le (by omega)] at hB
                have hL := leads_to HR.out (List.mem_of_getElem? HX.out)
                simp only at hL
                rw [← HA.out, ← hB] at hL
                clear hB
                cases A with
                | true =>
                  obtain rfl := hL rfl
                  clear hL
                  go_wp2_with fail
                  go_roundw
                  case rel => exact ⟨i + 1, by omega, by go_num, HO.out.trans HOY.out (Within.nil _ _)⟩
                  case measure => simp [intOf]; omega
                | false =>
                  clear hL
                  go_wp2_with fail
                  go_roundw
                  case rel => exact ⟨i + 1, by omega, by go_num, HO.out.trans HOY.out (Within.nil _ _)⟩
                  case measure => simp [intOf]; omega
      · have HO3 := Lib.hid (HO2.out.trans HO.out (Within.nil _ _))
        have HIR := Lib.hid (HI.out.only HO.out)
        go_wp2_with fail
        go_loopw [11] (fun s11 wx => ∃ k : Nat, 1 ≤ k ∧ k ≤ xs.length + 1 ∧ s11 = .int .i64 k ∧ Only [] Wi wx) (fun s11 _ => xs.length + 1 - (intOf s11).toNat)
        case atStart => exact ⟨1, by omega, by omega, rfl, Only.refl _ _⟩
        case round =>
          obtain ⟨k1, hk1, hk, rfl, hox⟩ := hrel
          obtain ⟨wx, rfl⟩ : ∃ wx, wx = wr := ⟨_, rfl⟩
          have HOX := Lib.hid hox; clear hox
          obtain ⟨k, rfl⟩ : ∃ k, k1 = k + 1 := ⟨k1 - 1, by omega⟩
          clear hk1
          by_cases hkl : k + 1 < xs.length
          · obtain ⟨z, hz⟩ : ∃ z, xs[k]? = some z := ⟨_, List.getElem?_eq_getElem (by omega)⟩
            obtain ⟨u, hu⟩ : ∃ z, xs[k + 1]? = some z := ⟨_, List.getElem?_eq_getElem hkl⟩
            have hzu : z < u := by
              obtain ⟨h1, rfl⟩ := List.getElem?_eq_some_iff.1 hz
              obtain ⟨h2, rfl⟩ := List.getElem?_eq_some_iff.1 hu
              exact List.pairwise_iff_getElem.1 HR.out.1 _ _ h1 h2 (by omega)
            obtain ⟨bz, oz, hpz, _, cz⟩ := (HIR.out.only HOX.out) k z hz
            obtain ⟨bu, ou, hpu, _, cu⟩ := (HIR.out.only HOX.out) (k + 1) u hu
            rw [hpz] at hpu
            simp only [Option.some.injEq, Addr.mk.injEq, and_true] at hpu
            obtain ⟨rfl, rfl⟩ := hpu
            subst hpz
            clear hz hu
            go_wp2_with fail
            go_quiet (fail)
            go_wp2_with fail
            go_roundw
            case rel => exact ⟨k + 2, by omega, by omega, by go_num, HOX.out.trans (Only.drewN [] _ _) (Within.nil _ _)⟩
            case measure => simp [intOf]; omega
          · go_wp2_with fail
            refine (wakes_any _).mono ?_
            rintro r w9 ⟨rfl, ho9⟩
            have HO9 := Lib.hid ho9; clear ho9
            go_wp2_with fail
            go_ret
            exact ⟨rfl, (HO3.out.trans HOX.out (Within.nil _ _)).trans HO9.out (Within.nil _ _)⟩

theorem own : ownKnob Try.prog.godebug = none := by kernel_rfl
theorem laidOut : laidOutB Try.prog = true := by kernel_rfl

set_option maxRecDepth 100000 in
theorem lifted (os : Os) (started : os.Started) (H : Type) (enc : TypeId × Value → H) :
    ReturnsInHanded {} Try.checked os 6 .any (Rows.waitLeadsSpec.pre6 enc Try.prog Try.f6 Rows.waitLeadsRow.domain false) (Rows.waitLeadsSpec.post enc Try.prog Try.f6 false true false false) := by
  refine returnsInHanded_of_change (C := Try.checked) own started (by kernel_rfl) Try.func6
    (ChangeSpec.witness6 (enc := enc) (C := Try.checked) false ⟨#[], #[.slice none 0 0, .int .i64 0], []⟩ 8 (by kernel_rfl) (by kernel_rfl) (by kernel_rfl) (by kernel_rfl)) ?_
  intro W base args ds gs before hval0 hW hcnd _
  have hval : ∀ (j : Nat) t v, Try.f6.params[j]? = some t → args[j]? = some v → Value.okWide Try.prog W .any base t v := hval0
  have hW' := hW
  obtain ⟨pp, pq, hA0, hV, rfl, hfz, hnd⟩ := hW
  have hA : DataW.TrodAll enc Try.prog W 0 (fun _ => true) true Try.f6.params.toList args.toList ds pp := hA0
  rw [Try.params6] at hA hval
  obtain ⟨v0, vs0, d0, ds0, p0, q0, hargs, rfl, rfl, h0, r0⟩ := trodAll_cons hA
  obtain ⟨v1, vs1, d1, ds1, p1, q1, rfl, rfl, rfl, h1, r1⟩ := trodAll_cons r0
  obtain ⟨rfl, rfl, rfl⟩ := trodAll_nil r1
  obtain rfl : args = #[v0, v1] := by cases args; simp_all
  obtain ⟨rfl, rfl⟩ := trodVars_none hV
  obtain ⟨sp0, sl0, sq0, rfl, hl0, hst0⟩ := open_edges (W := W) (v := v0) (by
    obtain ⟨a, len, cap, rfl⟩ := okWide_slice Try.underlying22 (hval 0 22 v0 rfl rfl)
    exact ⟨a, len, cap, rfl⟩) h0
  obtain ⟨a1, rfl, rfl, rfl, w1⟩ := open_int Try.underlying3 (hval 1 3 v1 rfl rfl) h1
  clear hA0 hval0
  simp only [List.append_nil] at hW'
  refine (walk sp0 sl0 sq0 a1 W hl0 hst0 (bounds_i64 w1)).mono fun e W' ⟨he, hg⟩ => ?_
  subst he
  have hb : Below W.heap.size W W' := hg.below (Nat.le_refl _) (by simp)
  have hargs := (trodAll_cons_mk (Below.trod laidOut (by kernel_rfl) (of_decide_eq_true (by kernel_rfl)) h0 hb (fun x hx => hW'.lt x (by simp [hx]))) (trodAll_cons_mk (shut_int Try.underlying3 w1) trodAll_mk0))
  simp only [List.append_nil] at hargs
  exact ⟨_, rfl, _, _, _, [], _, [], hW', trodAll_cons_mk (shut_bool Try.underlying4 _) trodAll_mk0, hargs, rfl, hb.frame _, fun h => by cases h⟩

theorem over : Rows.waitLeadsRow.holds Try.pinned (OpenSpec.ofChange Rows.waitLeadsSpec) :=
  OpenClaim.holds_of_wide 6 Try.f6 rfl rfl rfl rfl rfl rfl rfl ⟨rfl, rfl, rfl, rfl, rfl⟩ rfl rfl rfl rfl rfl (by kernel_rfl) Try.func6 (by kernel_rfl)
    (of_decide_eq_true (by kernel_rfl)) (by unfold Func.isWrapper; first | (rw [if_pos (by decide +kernel)]; kernel_rfl) | (rw [if_neg (by decide +kernel)]; exact ⟨rfl, rfl⟩))
    (fun os started H enc _ => lifted os started H enc)

theorem proved : Rows.WaitLeadsSaid := over
#print axioms proved
end Go.Proofs.Ytlgfegjfhagncaa.waitLeads
