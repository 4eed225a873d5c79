/-
  What is proved here: the statement PageRoom: just as many bytes as Free tells go into a page, and not one more; for every input.
  No condition.
-/
import Derived.Test.YtbikgahobkbpaaaPlay06
namespace Go.Proofs.Ytbikgahobkbpaaa.pageRoom
open Go.ChangeShapes Go.WideShapes Go.ChangeAt Go.RowKit Go.Proofs.Ytbikgahobkbpaaa
set_option linter.unusedVariables false

theorem ins_err {l : List RowD} (h : Valid l) (s : ByteArray) : (insertS (enc l) s).2.2 = (insR l s).2.1 := by
  obtain ⟨S, k, e, l', h1, h2, _⟩ := ins_agree h s
  rw [h1, h2]

theorem zeros_size (n : Nat) : (zerosB n).size = n := by
  show (zerosB n).data.size = n
  simp [zerosB]

theorem free_range (l : List RowD) : -1 ≤ freeL l ∧ freeL l ≤ 400 := by
  unfold freeL
  constructor <;> split <;> omega

theorem room_none {l : List RowD} (h : Valid l) (hf : freeL l < 0) : (insertS (enc l) ⟨#[]⟩).2.2 = 50 := by
  have h0 : (⟨#[]⟩ : ByteArray).size = 0 := rfl
  rw [ins_err h]
  unfold insR
  rw [h0, if_neg (by omega)]
  unfold freeL at hf
  rw [if_pos]
  split at hf
  · rename_i hq; rw [if_pos hq]; omega
  · rename_i hq; rw [if_neg hq]; omega

theorem room_fits {l : List RowD} (h : Valid l) {n : Nat} (hf : freeL l = n) : (insertS (enc l) (zerosB n)).2.2 = 0 := by
  rw [ins_err h]
  unfold insR
  have hr := free_range l
  rw [zeros_size, if_neg (by omega)]
  unfold freeL at hf
  rw [if_neg]
  split at hf
  · rename_i hq; rw [if_pos hq]; omega
  · rename_i hq; rw [if_neg hq]; omega

theorem room_more {l : List RowD} (h : Valid l) {n : Nat} (hf : freeL l = n) : (n < 400 ∧ (insertS (enc l) (zerosB (n + 1))).2.2 = 50) ∨ (n = 400 ∧ (insertS (enc l) (zerosB (n + 1))).2.2 = 2) := by
  rw [ins_err h]
  unfold insR
  have hr := free_range l
  rw [zeros_size]
  by_cases hn : n < 400
  · left
    refine ⟨hn, ?_⟩
    rw [if_neg (by omega)]
    unfold freeL at hf
    rw [if_pos]
    split at hf
    · rename_i hq; rw [if_pos hq]; omega
    · rename_i hq; rw [if_neg hq]; omega
  · right
    exact ⟨by omega, by rw [if_pos (by omega)]⟩

set_option maxRecDepth 100000 in
set_option maxHeartbeats 2000000 in
theorem walk (p : Option Addr) (l : List StepD) (q : Nat) (w : World) (hl : ((l.length : Nat) : Int) ≤ 9223372036854775807) (hst : StepsAt w p l) :
    Calls Try.prog 5 #[.slice p l.length q] w fun e w' => e = .returned (.bool true) ∧ Only [] w w' := by
  have HST := Lib.hid hst; clear hst
  cases hf : fairB l with
  | false =>
    go_enter Try.func5, Try.ntmps5
    go_wp2_with fail
    refine (fair_any p l q _ hl HST.out).mono ?_
    rintro e w1 ⟨rfl, rfl⟩
    rw [hf]
    clear hf
    go_wp2_with fail
    refine (wakes_any _).mono ?_
    rintro e w2 ⟨rfl, ho⟩
    have HO := Lib.hid ho; clear ho
    go_wp2_with fail
    go_ret
    exact ⟨rfl, HO.out⟩
  | true =>
    obtain ⟨hlen, hrows⟩ := fair_true hf
    have HROWS := Lib.hid hrows; clear hrows
    go_enter Try.func5, Try.ntmps5
    go_wp2_with fail
    refine (fair_any p l q _ hl HST.out).mono ?_
    rintro e w1 ⟨rfl, rfl⟩
    rw [hf]
    clear hf
    go_wp2_with fail
    refine (empty_any _).mono ?_
    rintro e w2 ⟨rfl, ho⟩
    have hs0 := pg_new (Sep.of_old ho)
    obtain ⟨b, hb⟩ : ∃ b, b = w2.heap.size := ⟨_, rfl⟩
    rw [← hb] at hs0
    have HS0 := Lib.hid hs0; clear hs0 ho
    have HB := Lib.hid hb; clear hb
    go_wp2_with fail
    rw [← HB.out]
    go_loopw [3, 5] (fun s3 s5 wr => ∃ (i : Nat) (lr : List RowD), i ≤ l.length ∧ s5 = .int .i64 i ∧ s3 = .string (enc lr) ∧ Valid lr ∧ Sep w wr [refPg b lr]) (fun _ s5 _ => l.length - (intOf s5).toNat)
    case atStart => exact ⟨0, [], Nat.zero_le _, rfl, rfl, Valid.nil, HS0.out⟩
    case round =>
      obtain ⟨i, lr, hi, rfl, rfl, hv, hs⟩ := hrel
      have HT := Lib.hid hs; clear hs HS0
      have HV := Lib.hid hv; clear hv
      by_cases hlt : i < l.length
      · obtain ⟨x, hx⟩ : ∃ x, l[i]? = some x := ⟨_, List.getElem?_eq_getElem hlt⟩
        obtain ⟨b', o, rfl, hb, hk1, hk2, c0, c1, c2⟩ := (HST.out.only HT.out.old) i x hx
        have hxr := HROWS.out x (List.mem_of_getElem? hx)
        clear hx
        have hv2 := stepL_valid HV.out x
        have HV2 := Lib.hid hv2; clear hv2
        go_wp2_with fail
        refine (play_any x HT.out HV.out (by omega)).mono ?_
        rintro e w3 ⟨rfl, hs3⟩
        have HS3 := Lib.hid hs3; clear hs3
        generalize stepL lr x = l2 at *
        have hz : (enc l2).size = 512 := enc_size HV2.out.took
        go_wp2_with fail
        refine (free_any (enc l2) _ (by omega)).mono ?_
        rintro e w4 ⟨rfl, ho⟩
        have HS4 := Lib.hid (HS3.out.only ho); clear ho
        rw [freeP_some (rowsM_enc HV2.out)]
        by_cases hn : freeL l2 < 0
        · have h50 := room_none HV2.out hn
          generalize freeL l2 = n at *
          have H50 := Lib.hid h50; clear h50
          go_wp2_with fail
          refine (insert_any (enc l2) ⟨#[]⟩ _ (by omega) (by decide)).mono ?_
          rintro e w5 ⟨rfl, ho⟩
          have HS5 := Lib.hid (HS4.out.only ho); clear ho
          rw [H50.out]
          go_wp2_with fail
          go_roundw
          case rel => exact ⟨i + 1, l2, by omega, by go_num, rfl, HV2.out, HS5.out⟩
          case measure => simp [intOf]; omega
        · obtain ⟨n, hn2⟩ := Int.eq_ofNat_of_zero_le (show 0 ≤ freeL l2 by omega)
          have hr := (free_range l2).2
          have HF := Lib.hid (room_fits HV2.out hn2)
          have hm := room_more HV2.out hn2
          rw [hn2] at hr
          rw [hn2]
          clear hn hn2
          have hn4 : n ≤ 400 := by omega
          have hz1 : ∀ W, Calls Try.prog 21 #[.int .i64 ((n : Int) + 1)] W fun e w' => e = .returned (.string (zerosB (n + 1))) ∧ Only [] W w' := fun W => zeros_any (n + 1) W (by omega)
          have HZ1 := Lib.hid hz1; clear hz1
          go_wp2_with fail
          refine (zeros_any n _ (by omega)).mono ?_
          rintro e w5 ⟨rfl, ho⟩
          have HS5 := Lib.hid (HS4.out.only ho); clear ho
          go_wp2_with fail
          refine (insert_any (enc l2) (zerosB n) _ (by omega) (by rw [zeros_size]; omega)).mono ?_
          rintro e w6 ⟨rfl, ho⟩
          have HS6 := Lib.hid (HS5.out.only ho); clear ho
          rw [HF.out]
          go_wp2_with fail
          refine (HZ1.out _).mono ?_
          rintro e w7 ⟨rfl, ho⟩
          have HS7 := Lib.hid (HS6.out.only ho); clear ho
          go_wp2_with fail
          refine (insert_any (enc l2) (zerosB (n + 1)) _ (by omega) (by rw [zeros_size]; omega)).mono ?_
          rintro e w8 ⟨rfl, ho⟩
          have HS8 := Lib.hid (HS7.out.only ho); clear ho
          rcases hm with ⟨hm1, hm2⟩ | ⟨hm1, hm2⟩
          · rw [hm2]
            clear hm2
            go_wp2_with fail
            go_roundw
            case rel => exact ⟨i + 1, l2, by omega, by go_num, rfl, HV2.out, HS8.out⟩
            case measure => simp [intOf]; omega
          · rw [hm2]
            clear hm2
            go_wp2_with fail
            go_roundw
            case rel => exact ⟨i + 1, l2, by omega, by go_num, rfl, HV2.out, HS8.out⟩
            case measure => simp [intOf]; omega
      · go_wp2_with fail
        refine (wakes_any _).mono ?_
        rintro e w2 ⟨rfl, ho⟩
        have HO2 := Lib.hid (HT.out.old.trans ho (Within.nil _ _)); clear ho
        go_wp2_with fail
        go_ret
        exact ⟨rfl, HO2.out⟩

theorem own : ownKnob Try.prog.godebug = none := by kernel_rfl
theorem laidOut : laidOutB Try.prog = true := by kernel_rfl

set_option maxRecDepth 100000 in
theorem lifted (os : Os) (started : os.Started) (H : Type) (enc : TypeId × Value → H) :
    ReturnsInHanded {} Try.checked os 5 .any (Rows.pageRoomSpec.pre6 enc Try.prog Try.f5 Rows.pageRoomRow.domain false) (Rows.pageRoomSpec.post enc Try.prog Try.f5 false true false false) := by
  refine returnsInHanded_of_change (C := Try.checked) own started (by kernel_rfl) Try.func5
    (ChangeSpec.witness6 (enc := enc) (C := Try.checked) false ⟨#[], #[.slice none 0 0], []⟩ 8 (by kernel_rfl) (by kernel_rfl) (by kernel_rfl) (by kernel_rfl)) ?_
  intro W base args ds gs before hval0 hW hcnd _
  have hval : ∀ (j : Nat) t v, Try.f5.params[j]? = some t → args[j]? = some v → Value.okWide Try.prog W .any base t v := hval0
  have hW' := hW
  obtain ⟨pp, pq, hA0, hV, rfl, hfz, hnd⟩ := hW
  have hA : DataW.TrodAll enc Try.prog W 0 (fun _ => true) true Try.f5.params.toList args.toList ds pp := hA0
  rw [Try.params5] at hA hval
  obtain ⟨v0, vs0, d0, ds0, p0, q0, hargs, rfl, rfl, h0, r0⟩ := trodAll_cons hA
  obtain ⟨rfl, rfl, rfl⟩ := trodAll_nil r0
  obtain rfl : args = #[v0] := by cases args; simp_all
  obtain ⟨rfl, rfl⟩ := trodVars_none hV
  obtain ⟨sp0, sl0, sq0, rfl, hl0, hst0⟩ := open_steps (W := W) (v := v0) (by
    obtain ⟨a, len, cap, rfl⟩ := okWide_slice Try.underlying22 (hval 0 22 v0 rfl rfl)
    exact ⟨a, len, cap, rfl⟩) h0
  clear hA0 hval0
  simp only [List.append_nil] at hW'
  refine (walk sp0 sl0 sq0 W hl0 hst0).mono fun e W' ⟨he, hg⟩ => ?_
  subst he
  have hb : Below W.heap.size W W' := hg.below (Nat.le_refl _) (by simp)
  have hargs := (trodAll_cons_mk (Below.trod laidOut (by kernel_rfl) (of_decide_eq_true (by kernel_rfl)) h0 hb (fun x hx => hW'.lt x (by simp [hx]))) trodAll_mk0)
  simp only [List.append_nil] at hargs
  exact ⟨_, rfl, _, _, _, [], _, [], hW', trodAll_cons_mk (shut_bool Try.underlying4 _) trodAll_mk0, hargs, rfl, hb.frame _, fun h => by cases h⟩

theorem over : Rows.pageRoomRow.holds Try.pinned (OpenSpec.ofChange Rows.pageRoomSpec) :=
  OpenClaim.holds_of_wide 5 Try.f5 rfl rfl rfl rfl rfl rfl rfl ⟨rfl, rfl, rfl, rfl, rfl⟩ rfl rfl rfl rfl rfl (by kernel_rfl) Try.func5 (by kernel_rfl)
    (of_decide_eq_true (by kernel_rfl)) (by unfold Func.isWrapper; first | (rw [if_pos (by decide +kernel)]; kernel_rfl) | (rw [if_neg (by decide +kernel)]; exact ⟨rfl, rfl⟩))
    (fun os started H enc _ => lifted os started H enc)

theorem proved : Rows.PageRoomSaid := over
#print axioms proved
end Go.Proofs.Ytbikgahobkbpaaa.pageRoom
