/-
  What is proved here: the statement PageEmpties: all that is deleted leaves a page as it was at first; for every input.
  No condition.
-/
import Derived.Test.YtbikgahobkbpaaaPageS
namespace Go.Proofs.Ytbikgahobkbpaaa.pageEmpties
open Go.ChangeShapes Go.WideShapes Go.ChangeAt Go.RowKit Go.Proofs.Ytbikgahobkbpaaa
set_option linter.unusedVariables false

/-- A page's text. -/
def APage (s : Value) : Prop := ∃ lr, s = .string (enc lr) ∧ Valid lr

theorem insert_page {lr : List RowD} {s : ByteArray} (hv : Valid lr) (h : (insertS (enc lr) s).2.2 = 0) : APage (.string (insertS (enc lr) s).1) := by
  rw [insertS_some (rowsM_enc hv)] at h ⊢
  by_cases e : (putS lr (lowest lr) s).2 = 0
  · rw [if_pos e]
    have hl := lowest_le lr
    obtain ⟨h1, h2⟩ := hv.put (k := lowest lr) (s := s) (by omega) e
    exact ⟨_, by rw [h2], h1⟩
  · rw [if_neg e] at h
    exact absurd h e

theorem free_nil : freeP (enc []) = 400 := by
  rw [freeP_some (rowsM_enc Valid.nil)]
  decide

set_option maxRecDepth 100000 in
set_option maxHeartbeats 2000000 in
theorem walk (p : Option Addr) (l : List StepD) (q : Nat) (tp : Option Addr) (turn : List Int) (tq : Nat) (w : World) (hl : ((l.length : Nat) : Int) ≤ 9223372036854775807) (hst : StepsAt w p l)
    (ht : ((turn.length : Nat) : Int) ≤ 9223372036854775807) (hti : (∀ y ∈ turn, inI64 y) ∧ IntsAt w tp turn) :
    Calls Try.prog 6 #[.slice p l.length q, .slice tp turn.length tq] w fun e w' => e = .returned (.bool true) ∧ Only [] w w' := by
  have HST := Lib.hid hst; clear hst
  have HTI := Lib.hid hti; clear hti
  cases hf : fairB l with
  | false =>
    go_enter Try.func6, Try.ntmps6
    go_wp2_with fail
    refine (fair_any p l q _ hl HST.out).mono ?_
    rintro e w1 ⟨rfl, rfl⟩
    rw [hf]
    clear hf
    go_wp2_with fail
    refine (wakes_any _).mono ?_
    rintro e w2 ⟨rfl, ho⟩
    have HO := Lib.hid ho; clear ho
    go_wp2_with fail
    go_ret
    exact ⟨rfl, HO.out⟩
  | true =>
    obtain ⟨hlen, hrows⟩ := fair_true hf
    have HROWS := Lib.hid hrows; clear hrows
    go_enter Try.func6, Try.ntmps6
    go_wp2_with fail
    refine (fair_any p l q _ hl HST.out).mono ?_
    rintro e w1 ⟨rfl, rfl⟩
    rw [hf]
    clear hf
    go_wp2_with fail
    refine (empty_any _).mono ?_
    rintro e w2 ⟨rfl, ho⟩
    have O2 := Lib.hid ho; clear ho
    go_wp2_with fail
    go_loopw [5, 6] (fun s5 s6 wr => ∃ i : Nat, i ≤ l.length ∧ s6 = .int .i64 i ∧ APage s5 ∧ Only [] w wr) (fun _ s6 _ => l.length - (intOf s6).toNat)
    case atStart => exact ⟨0, Nat.zero_le _, rfl, ⟨[], rfl, Valid.nil⟩, O2.out⟩
    case round =>
      obtain ⟨i, hi, rfl, ⟨lr, rfl, hv⟩, ho⟩ := hrel
      have HO := Lib.hid ho; clear ho O2
      have HVL := Lib.hid hv; clear hv
      have hz : (enc lr).size = 512 := enc_size HVL.out.took
      by_cases hlt : i < l.length
      · obtain ⟨x, hx⟩ : ∃ x, l[i]? = some x := ⟨_, List.getElem?_eq_getElem hlt⟩
        obtain ⟨b, o, rfl, hb, hk1, hk2, c0, c1, c2⟩ := (HST.out.only HO.out) i x hx
        have hxr := HROWS.out x (List.mem_of_getElem? hx)
        clear hx
        have hpg := fun h => insert_page (s := x.row) HVL.out h
        have HPG := Lib.hid hpg; clear hpg
        go_wp2_with fail
        refine (insert_any (enc lr) x.row _ (by omega) (by omega)).mono ?_
        rintro e w3 ⟨rfl, ho⟩
        have HO3 := Lib.hid (HO.out.trans ho (Within.nil _ _)); clear ho
        generalize insertS (enc lr) x.row = r at *
        obtain ⟨r1, r2, r3⟩ := r
        by_cases he : r3 = 0
        · subst he
          have HP := Lib.hid (HPG.out rfl)
          go_wp2_with fail
          go_roundw
          case rel => exact ⟨i + 1, by omega, by go_num, HP.out, HO3.out⟩
          case measure => simp [intOf]; omega
        · have he' : (r3 == 0) = false := by rw [beq_eq_false_iff_ne]; exact he
          go_wp2_with fail
          go_roundw
          case rel => exact ⟨i + 1, by omega, by go_num, ⟨lr, rfl, HVL.out⟩, HO3.out⟩
          case measure => simp [intOf]; omega
      · go_upto_block 2 with fail
        go_cut [5] (fun s5 wx => s5 = .string (enc []) ∧ Only [] w wx)
        case first =>
          go_wp2_with fail
          go_loopw [5, 10] (fun s5 s10 wr => ∃ (j : Nat) (lr : List RowD), s10 = .int .i64 j ∧ s5 = .string (enc lr) ∧ Valid lr ∧ j + cnt lr ≤ 127 ∧ Only [] w wr) (fun _ s10 _ => 600 - (intOf s10).toNat)
          case atStart =>
            have := cnt_le lr
            have := took_len HVL.out.took
            exact ⟨0, lr, rfl, rfl, HVL.out, by omega, HO.out⟩
          case round =>
            obtain ⟨j, lr, rfl, rfl, hv, hj, ho⟩ := hrel
            have HO2 := Lib.hid ho; clear ho HO
            have HV2 := Lib.hid hv; clear hv HVL
            have hz : (enc lr).size = 512 := enc_size HV2.out.took
            have hsl := slotsP_some (rowsM_enc HV2.out)
            have hcl := slotsFrom_length lr 0
            go_wp2_with fail
            refine (slots_any (enc lr) (Sep.of_old HO2.out) (by omega)).mono ?_
            rintro e w4 ⟨a, b, rfl, hs4⟩
            rw [hsl] at hs4
            rw [hsl]
            have HS4 := Lib.hid hs4; clear hs4
            have hlc : (slotsL lr).length = cnt lr := hcl
            by_cases h0 : cnt lr = 0
            · have hnil := empty_of_cnt HV2.out h0
              subst hnil
              have hl0 : ((slotsL []).length : Int) = 0 := rfl
              have HO5 := Lib.hid HS4.out.old
              go_wp2_with fail
              go_meet
              exact ⟨rfl, HO5.out⟩
            · generalize hsll : slotsL lr = sl at *
              have hn : 0 < sl.length := by omega
              obtain ⟨g, rfl⟩ := HS4.out.rowAt (by simp [natCells]; omega)
              go_upto_if 51 with fail
              go_cut [12] (fun s12 wx => ∃ n : Nat, n < sl.length ∧ s12 = .int .i64 n ∧ w4 = wx)
              case first =>
                by_cases ht0 : turn.length = 0
                · have ht0' : (turn.length : Int) = 0 := by omega
                  go_wp2_with fail
                  go_meet
                  exact ⟨0, hn, rfl, rfl⟩
                · have hti : j % turn.length < turn.length := Nat.mod_lt _ (by omega)
                  obtain ⟨tb, to', rfl, htb, htc⟩ := (HTI.out.2.only HS4.out.old) (j % turn.length) turn[j % turn.length] (List.getElem?_eq_getElem hti)
                  have hty := HTI.out.1 turn[j % turn.length] (List.getElem_mem _)
                  generalize turn[j % turn.length] = y at *
                  obtain ⟨hy1, hy2⟩ := hty
                  have htm : (j : Int).tmod turn.length = ((j % turn.length : Nat) : Int) := by simp [Int.tmod]
                  have hm0 : 0 ≤ y % (cnt lr : Int) := Int.emod_nonneg _ (by omega)
                  have hm1 : y % (cnt lr : Int) < cnt lr := Int.emod_lt_of_pos _ (by omega)
                  go_wp2_with fail
                  refine (mod_any y (cnt lr) _ (by omega) (by omega) hy1 hy2).mono ?_
                  rintro e w5 ⟨rfl, rfl⟩
                  generalize y % (cnt lr : Int) = m at *
                  obtain ⟨n, rfl⟩ := Int.eq_ofNat_of_zero_le hm0
                  go_wp2_with fail
                  go_meet
                  exact ⟨n, by omega, rfl, rfl⟩
              case rest =>
                obtain ⟨n, hn2, rfl, rfl⟩ := hcut
                obtain ⟨v, hv⟩ : ∃ v, sl[n]? = some v := ⟨_, List.getElem?_eq_getElem hn2⟩
                have c4 := (HS4.out.rowCell (natCells_at hv)).1
                obtain ⟨r, hr1, hr2⟩ := slotsL_mem (l := lr) (v := v) (by rw [hsll]; exact List.mem_of_getElem? hv)
                have hd : delP (enc lr) (v : Int) = (enc (delL lr v), 0) := by
                  rw [delP_some (rowsM_enc HV2.out), if_pos (has_of hr1 hr2), Int.toNat_natCast]
                have hcd := cnt_del hr1 hr2
                have hvd := HV2.out.del (List.getElem?_eq_some_iff.1 hr1).1
                have HD := Lib.hid hd; clear hd
                have HVD := Lib.hid hvd; clear hvd
                clear hv hr1 hr2 hsl hcl hsll
                go_wp2_with fail
                refine (delp_any (enc lr) v _ (by omega)).mono ?_
                rintro e w6 ⟨rfl, ho⟩
                have HO6 := Lib.hid (HS4.out.old.trans ho (Within.nil _ _)); clear ho
                rw [HD.out]
                go_wp2_with fail
                go_roundw
                case rel => exact ⟨j + 1, delL lr v, by go_num, rfl, HVD.out, by omega, HO6.out⟩
                case measure => simp [intOf]; omega
        case rest =>
          obtain ⟨rfl, ho⟩ := hcut
          have HO2 := Lib.hid ho; clear ho HO
          have q2 : ((enc []).toList == (enc []).toList) = true := beq_self_eq_true _
          have hE : (enc []).size = 512 := enc_size (by decide)
          go_wp2_with fail
          refine (empty_any _).mono ?_
          rintro e w4 ⟨rfl, ho⟩
          have HO4 := Lib.hid (HO2.out.trans ho (Within.nil _ _)); clear ho
          go_wp2_with fail
          refine (free_any (enc []) _ (by omega)).mono ?_
          rintro e w5 ⟨rfl, ho⟩
          have HO5 := Lib.hid (HO4.out.trans ho (Within.nil _ _)); clear ho
          rw [free_nil]
          go_wp2_with fail
          refine (wakes_any _).mono ?_
          rintro e w6 ⟨rfl, ho⟩
          have HO6 := Lib.hid (HO5.out.trans ho (Within.nil _ _)); clear ho
          go_wp2_with fail
          go_ret
          exact ⟨rfl, HO6.out⟩

theorem own : ownKnob Try.prog.godebug = none := by kernel_rfl
theorem laidOut : laidOutB Try.prog = true := by kernel_rfl

set_option maxRecDepth 100000 in
theorem lifted (os : Os) (started : os.Started) (H : Type) (enc : TypeId × Value → H) :
    ReturnsInHanded {} Try.checked os 6 .any (Rows.pageEmptiesSpec.pre6 enc Try.prog Try.f6 Rows.pageEmptiesRow.domain false) (Rows.pageEmptiesSpec.post enc Try.prog Try.f6 false true false false) := by
  refine returnsInHanded_of_change (C := Try.checked) own started (by kernel_rfl) Try.func6
    (ChangeSpec.witness6 (enc := enc) (C := Try.checked) false ⟨#[], #[.slice none 0 0, .slice none 0 0], []⟩ 8 (by kernel_rfl) (by kernel_rfl) (by kernel_rfl) (by kernel_rfl)) ?_
  intro W base args ds gs before hval0 hW hcnd _
  have hval : ∀ (j : Nat) t v, Try.f6.params[j]? = some t → args[j]? = some v → Value.okWide Try.prog W .any base t v := hval0
  have hW' := hW
  obtain ⟨pp, pq, hA0, hV, rfl, hfz, hnd⟩ := hW
  have hA : DataW.TrodAll enc Try.prog W 0 (fun _ => true) true Try.f6.params.toList args.toList ds pp := hA0
  rw [Try.params6] at hA hval
  obtain ⟨v0, vs0, d0, ds0, p0, q0, hargs, rfl, rfl, h0, r0⟩ := trodAll_cons hA
  obtain ⟨v1, vs1, d1, ds1, p1, q1, rfl, rfl, rfl, h1, r1⟩ := trodAll_cons r0
  obtain ⟨rfl, rfl, rfl⟩ := trodAll_nil r1
  obtain rfl : args = #[v0, v1] := by cases args; simp_all
  obtain ⟨rfl, rfl⟩ := trodVars_none hV
  obtain ⟨sp0, sl0, sq0, rfl, hl0, hst0⟩ := open_steps (W := W) (v := v0) (by
    obtain ⟨a, len, cap, rfl⟩ := okWide_slice Try.underlying22 (hval 0 22 v0 rfl rfl)
    exact ⟨a, len, cap, rfl⟩) h0
  obtain ⟨sp1, sl1, sq1, rfl, hl1, hst1⟩ := open_ints' (W := W) (v := v1) (by
    obtain ⟨a, len, cap, rfl⟩ := okWide_slice Try.underlying35 (hval 1 35 v1 rfl rfl)
    exact ⟨a, len, cap, rfl⟩) h1
  clear hA0 hval0
  simp only [List.append_nil] at hW'
  refine (walk sp0 sl0 sq0 sp1 sl1 sq1 W hl0 hst0 hl1 hst1).mono fun e W' ⟨he, hg⟩ => ?_
  subst he
  have hb : Below W.heap.size W W' := hg.below (Nat.le_refl _) (by simp)
  have hargs := (trodAll_cons_mk (Below.trod laidOut (by kernel_rfl) (of_decide_eq_true (by kernel_rfl)) h0 hb (fun x hx => hW'.lt x (by simp [hx]))) (trodAll_cons_mk (Below.trod laidOut (by kernel_rfl) (of_decide_eq_true (by kernel_rfl)) h1 hb (fun x hx => hW'.lt x (by simp [hx]))) trodAll_mk0))
  simp only [List.append_nil] at hargs
  exact ⟨_, rfl, _, _, _, [], _, [], hW', trodAll_cons_mk (shut_bool Try.underlying4 _) trodAll_mk0, hargs, rfl, hb.frame _, fun h => by cases h⟩

theorem over : Rows.pageEmptiesRow.holds Try.pinned (OpenSpec.ofChange Rows.pageEmptiesSpec) :=
  OpenClaim.holds_of_wide 6 Try.f6 rfl rfl rfl rfl rfl rfl rfl ⟨rfl, rfl, rfl, rfl, rfl⟩ rfl rfl rfl rfl rfl (by kernel_rfl) Try.func6 (by kernel_rfl)
    (of_decide_eq_true (by kernel_rfl)) (by unfold Func.isWrapper; first | (rw [if_pos (by decide +kernel)]; kernel_rfl) | (rw [if_neg (by decide +kernel)]; exact ⟨rfl, rfl⟩))
    (fun os started H enc _ => lifted os started H enc)

theorem proved : Rows.PageEmptiesSaid := over
#print axioms proved
end Go.Proofs.Ytbikgahobkbpaaa.pageEmpties
