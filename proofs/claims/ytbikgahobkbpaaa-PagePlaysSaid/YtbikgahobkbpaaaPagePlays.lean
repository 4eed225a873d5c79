/-
  What is proved here: the statement PagePlays: rows that are inserted, changed, deleted: each slot, each error, what is there, what is free; for every input.
  No condition.
-/
import Derived.Test.YtbikgahobkbpaaaSame06
namespace Go.Proofs.Ytbikgahobkbpaaa.pagePlays
open Go.ChangeShapes Go.WideShapes Go.ChangeAt Go.RowKit Go.Proofs.Ytbikgahobkbpaaa
set_option linter.unusedVariables false

set_option maxRecDepth 100000 in
set_option maxHeartbeats 2000000 in
theorem walk (p : Option Addr) (l : List StepD) (q : Nat) (w : World) (hl : ((l.length : Nat) : Int) ≤ 9223372036854775807) (hst : StepsAt w p l) :
    Calls Try.prog 7 #[.slice p l.length q] w fun e w' => e = .returned (.bool true) ∧ Only [] w w' := by
  have HST := Lib.hid hst; clear hst
  cases hf : fairB l with
  | false =>
    go_enter Try.func7, Try.ntmps7
    go_wp2_with fail
    refine (fair_any p l q _ hl HST.out).mono ?_
    rintro e w1 ⟨rfl, rfl⟩
    rw [hf]
    clear hf
    go_wp2_with fail
    refine (wakes_any _).mono ?_
    rintro e w2 ⟨rfl, ho⟩
    have HO := Lib.hid ho; clear ho
    go_wp2_with fail
    go_ret
    exact ⟨rfl, HO.out⟩
  | true =>
    obtain ⟨hlen, hrows⟩ := fair_true hf
    have HROWS := Lib.hid hrows; clear hrows
    go_enter Try.func7, Try.ntmps7
    go_wp2_with fail
    refine (fair_any p l q _ hl HST.out).mono ?_
    rintro e w1 ⟨rfl, rfl⟩
    rw [hf]
    clear hf
    go_wp2_with fail
    refine (empty_any _).mono ?_
    rintro e w2 ⟨rfl, ho⟩
    have hs0 := pg_new (Sep.of_old ho)
    obtain ⟨b, hb⟩ : ∃ b, b = w2.heap.size := ⟨_, rfl⟩
    rw [← hb] at hs0
    have HS0 := Lib.hid hs0; clear hs0 ho
    have HB := Lib.hid hb; clear hb
    go_wp2_with fail
    rw [← HB.out]
    go_loopw [3, 5] (fun s3 s5 wr => ∃ (i : Nat) (lr : List RowD), i ≤ l.length ∧ s5 = .int .i64 i ∧ s3 = .string (enc lr) ∧ Valid lr ∧ Sep w wr [refPg b lr]) (fun _ s5 _ => l.length - (intOf s5).toNat)
    case atStart => exact ⟨0, [], Nat.zero_le _, rfl, rfl, Valid.nil, HS0.out⟩
    case round =>
      obtain ⟨i, lr, hi, rfl, rfl, hv, hs⟩ := hrel
      have HT := Lib.hid hs; clear hs HS0
      have HV := Lib.hid hv; clear hv
      by_cases hlt : i < l.length
      · obtain ⟨x, hx⟩ : ∃ x, l[i]? = some x := ⟨_, List.getElem?_eq_getElem hlt⟩
        obtain ⟨b', o, rfl, hb, hk1, hk2, c0, c1, c2⟩ := (HST.out.only HT.out.old) i x hx
        have hxr := HROWS.out x (List.mem_of_getElem? hx)
        have HX := Lib.hid hx; clear hx
        have hv2 := stepL_valid HV.out x
        have HV2 := Lib.hid hv2; clear hv2
        go_wp2_with fail
        refine (play_any x HT.out HV.out (by omega)).mono ?_
        rintro e w3 ⟨rfl, hs3⟩
        have HS3 := Lib.hid hs3; clear hs3
        generalize stepL lr x = l2 at *
        have hsl2 : w3.cell? ⟨b', o + i * 3 + 1, none⟩ = some (.int .i64 x.slot) := by
          have h1 := (HST.out.only HS3.out.old) i x HX.out
          obtain ⟨b2, o2, e, _, _, _, _, d1, _⟩ := h1
          simp only [Option.some.injEq, Addr.mk.injEq, and_true] at e
          obtain ⟨rfl, rfl⟩ := e
          exact d1
        go_wp2_with fail
        refine (same_any x.slot HS3.out HV2.out).mono ?_
        rintro e w4 ⟨rfl, hs4⟩
        have HS4 := Lib.hid hs4; clear hs4
        go_wp2_with fail
        go_roundw
        case rel => exact ⟨i + 1, l2, by omega, by go_num, rfl, HV2.out, HS4.out⟩
        case measure => simp [intOf]; omega
      · go_wp2_with fail
        refine (wakes_any _).mono ?_
        rintro e w2 ⟨rfl, ho⟩
        have HO2 := Lib.hid (HT.out.old.trans ho (Within.nil _ _)); clear ho
        go_wp2_with fail
        go_ret
        exact ⟨rfl, HO2.out⟩

theorem own : ownKnob Try.prog.godebug = none := by kernel_rfl
theorem laidOut : laidOutB Try.prog = true := by kernel_rfl

set_option maxRecDepth 100000 in
theorem lifted (os : Os) (started : os.Started) (H : Type) (enc : TypeId × Value → H) :
    ReturnsInHanded {} Try.checked os 7 .any (Rows.pagePlaysSpec.pre6 enc Try.prog Try.f7 Rows.pagePlaysRow.domain false) (Rows.pagePlaysSpec.post enc Try.prog Try.f7 false true false false) := by
  refine returnsInHanded_of_change (C := Try.checked) own started (by kernel_rfl) Try.func7
    (ChangeSpec.witness6 (enc := enc) (C := Try.checked) false ⟨#[], #[.slice none 0 0], []⟩ 8 (by kernel_rfl) (by kernel_rfl) (by kernel_rfl) (by kernel_rfl)) ?_
  intro W base args ds gs before hval0 hW hcnd _
  have hval : ∀ (j : Nat) t v, Try.f7.params[j]? = some t → args[j]? = some v → Value.okWide Try.prog W .any base t v := hval0
  have hW' := hW
  obtain ⟨pp, pq, hA0, hV, rfl, hfz, hnd⟩ := hW
  have hA : DataW.TrodAll enc Try.prog W 0 (fun _ => true) true Try.f7.params.toList args.toList ds pp := hA0
  rw [Try.params7] at hA hval
  obtain ⟨v0, vs0, d0, ds0, p0, q0, hargs, rfl, rfl, h0, r0⟩ := trodAll_cons hA
  obtain ⟨rfl, rfl, rfl⟩ := trodAll_nil r0
  obtain rfl : args = #[v0] := by cases args; simp_all
  obtain ⟨rfl, rfl⟩ := trodVars_none hV
  obtain ⟨sp0, sl0, sq0, rfl, hl0, hst0⟩ := open_steps (W := W) (v := v0) (by
    obtain ⟨a, len, cap, rfl⟩ := okWide_slice Try.underlying22 (hval 0 22 v0 rfl rfl)
    exact ⟨a, len, cap, rfl⟩) h0
  clear hA0 hval0
  simp only [List.append_nil] at hW'
  refine (walk sp0 sl0 sq0 W hl0 hst0).mono fun e W' ⟨he, hg⟩ => ?_
  subst he
  have hb : Below W.heap.size W W' := hg.below (Nat.le_refl _) (by simp)
  have hargs := (trodAll_cons_mk (Below.trod laidOut (by kernel_rfl) (of_decide_eq_true (by kernel_rfl)) h0 hb (fun x hx => hW'.lt x (by simp [hx]))) trodAll_mk0)
  simp only [List.append_nil] at hargs
  exact ⟨_, rfl, _, _, _, [], _, [], hW', trodAll_cons_mk (shut_bool Try.underlying4 _) trodAll_mk0, hargs, rfl, hb.frame _, fun h => by cases h⟩

theorem over : Rows.pagePlaysRow.holds Try.pinned (OpenSpec.ofChange Rows.pagePlaysSpec) :=
  OpenClaim.holds_of_wide 7 Try.f7 rfl rfl rfl rfl rfl rfl rfl ⟨rfl, rfl, rfl, rfl, rfl⟩ rfl rfl rfl rfl rfl (by kernel_rfl) Try.func7 (by kernel_rfl)
    (of_decide_eq_true (by kernel_rfl)) (by unfold Func.isWrapper; first | (rw [if_pos (by decide +kernel)]; kernel_rfl) | (rw [if_neg (by decide +kernel)]; exact ⟨rfl, rfl⟩))
    (fun os started H enc _ => lifted os started H enc)

theorem proved : Rows.PagePlaysSaid := over
#print axioms proved
end Go.Proofs.Ytbikgahobkbpaaa.pagePlays
