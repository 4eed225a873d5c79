/-
  What is proved here: the statement LockAlone: at no time two have a thing of which one has it alone; who waits for it has it not so; for every input.
  No condition beyond the row's own (the table of the modes is as the program lays it).
-/
import Derived.Test.YtipfjjcokajjjaaDoorLkZ
import Derived.Test.YtipfjjcokajjjaaDoorLkP
import Derived.Test.YtipfjjcokajjjaaDoorTie
import Derived.Test.YtipfjjcokajjjaaDoorCards
import Derived.LaidMore
import Derived.Lay
import Derived.SevenTiedAt
import Derived.Stop.Joined
import Derived.Deep.LoopGhost
import Derived.Deep.DeepCutAuto
import Derived.Deep.CutBlock
namespace Go.Proofs.YtipfjjcokajjjaaDoor.lockAlone
open Go.ChangeShapes Go.WideShapes Go.ChangeAt Go.RowKit Go.Proofs.YtipfjjcokajjjaaDoor
set_option linter.unusedVariables false
set_option linter.unusedSimpArgs false

def S6 : Int → Prop := fun a => 1 ≤ a ∧ a ≤ 6
def hOf (x : StepD) : Int := 1 + x.holder % 6
theorem hOf_in (x : StepD) : S6 (hOf x) := by unfold S6 hOf; omega
/-- What a step does. -/
def stepT (t : Tab) (x : StepD) : Tab := if x.kind = 1 then (relM t (hOf x)).2 else (takeM t (hOf x) x.thing x.mode).2
theorem stepT_good {t : Tab} (hg : Good t) (x : StepD) : Good (stepT t x) := by
  unfold stepT
  split
  · exact relM_good hg _
  · exact takeM_good hg _ _ _
theorem stepT_in {t : Tab} (hg : Good t) (ha : AllIn t S6) (x : StepD) : AllIn (stepT t x) S6 := by
  unfold stepT
  split
  · intro z hz
    have := allIn_rel hg ha (hOf x) z hz
    exact ⟨fun y hy => (this.1 y hy).1, fun y hy => (this.2 y hy).1⟩
  · exact allIn_take hg ha (hOf_in x) _ _

theorem mode_three {t : Tab} (hg : Good t) (h : Int) (n : ByteArray) : modeM t h n = 0 ∨ modeM t h n = 1 ∨ modeM t h n = 2 := by
  unfold modeM
  cases eg : getT t n with
  | none => exact .inl rfl
  | some z =>
    rcases modeL_cases ((hg.each z (getT_some hg eg).2.1).has) h with ⟨a, _⟩ | ⟨a, _⟩
    · exact .inl a
    · exact .inr a

/-- What is counted of a thing: how many share it, how many have it alone, among the first i. -/
def CountsAt (x : Th) (i s a : Nat) : Prop := (a = 0 ∨ (a = 1 ∧ s = 0 ∧ ∃ k : Int, 1 ≤ k ∧ k ≤ i ∧ modeL x.has k = 2)) ∧ (0 < s → ∃ k : Int, 1 ≤ k ∧ k ≤ i ∧ modeL x.has k = 1) ∧ s ≤ i
theorem counts_zero (x : Th) : CountsAt x 0 0 0 := ⟨.inl rfl, fun h => absurd h (by omega), Nat.le_refl _⟩
theorem counts_0 {x : Th} {i s a : Nat} (h : CountsAt x i s a) : CountsAt x (i + 1) s a := by
  obtain ⟨h1, h2, h3⟩ := h
  refine ⟨?_, fun q => ?_, by omega⟩
  · rcases h1 with q | ⟨q1, q2, k, k1, k2, k3⟩
    · exact .inl q
    · exact .inr ⟨q1, q2, k, k1, by omega, k3⟩
  · obtain ⟨k, k1, k2, k3⟩ := h2 q
    exact ⟨k, k1, by omega, k3⟩
theorem counts_1 {x : Th} (hx : GoodT x) {i s a : Nat} (h : CountsAt x i s a) (hm : modeL x.has ((i : Int) + 1) = 1) : CountsAt x (i + 1) (s + 1) a := by
  obtain ⟨h1, h2, h3⟩ := h
  refine ⟨?_, fun _ => ⟨(i : Int) + 1, by omega, by omega, hm⟩, by omega⟩
  rcases h1 with q | ⟨q1, q2, k, k1, k2, k3⟩
  · exact .inl q
  · have := alone_one hx k3 (j := (i : Int) + 1) (by omega); omega
theorem counts_2 {x : Th} (hx : GoodT x) {i s a : Nat} (h : CountsAt x i s a) (hm : modeL x.has ((i : Int) + 1) = 2) : CountsAt x (i + 1) s (a + 1) := by
  obtain ⟨h1, h2, h3⟩ := h
  have hs : s = 0 := by
    rcases Nat.eq_zero_or_pos s with q | q
    · exact q
    · obtain ⟨k, k1, k2, k3⟩ := h2 q
      have := alone_one hx hm (j := k) (by omega); omega
  refine ⟨?_, fun q => by omega, by omega⟩
  rcases h1 with q | ⟨q1, q2, k, k1, k2, k3⟩
  · exact .inr ⟨by omega, hs, (i : Int) + 1, by omega, by omega, hm⟩
  · have := alone_one hx k3 (j := (i : Int) + 1) (by omega); omega

set_option maxRecDepth 100000 in
set_option maxHeartbeats 8000000 in
theorem walk (p : Option Addr) (l : List StepD) (q : Nat) (w : World) (hl : ((l.length : Nat) : Int) ≤ 9223372036854775807) (hst : StepsAt w p l) (htog : Tog w) :
    Calls Tryd.prog 4 #[.slice p l.length q] w fun e w' => e = .returned (.bool true) ∧ Only [] w w' := by
  have HT := Lib.hid htog
  have HN := Lib.hid (Sep.nil w)
  have HST := Lib.hid hst
  clear htog hst
  go_enter Tryd.func4, Tryd.ntmps4
  go_wp2_with (go_at_call 10; refine (new_any HN.out).mono ?_; rintro e w1 ⟨b, rfl, hs1⟩; have HS1 := Lib.hid hs1; clear hs1)
  refine (fair_any p l q w1 hl (HST.out.only HS1.out.old)).mono ?_
  rintro e w2 ⟨rfl, rfl⟩
  cases hfair : fairB l with
  | false =>
    go_wp2_with fail
    refine (wakes_any w1 (HT.out.only HS1.out.old)).mono ?_
    rintro e w3 ⟨rfl, ho3⟩
    have HO3 := Lib.hid (HS1.out.old.trans ho3 (Within.nil _ _))
    clear ho3
    go_wp2_with fail
    go_ret
    exact ⟨rfl, HO3.out⟩
  | true =>
    have hfl := (fair_true hfair).1
    clear hfair
    go_wp2_with fail
    go_loopg [4, 5] l.length (fun gg s4 _ wr => ∃ (i : Nat) (t : Tab), i ≤ l.length ∧ l.length - i ≤ gg ∧ s4 = .int .i64 i ∧ Aside (Good t) ∧ Aside (AllIn t S6) ∧ Aside (Sep w wr [tabRes b t]))
    case atStart => exact ⟨0, [], Nat.zero_le _, by omega, rfl, good_nil, (fun x hx => (by cases hx) : AllIn [] S6), HS1.out⟩
    case round =>
      obtain ⟨i, t, hi, hgg, rfl, HG, HA, HS⟩ := hrel
      clear HS1
      have hgt : Good t := HG
      have hat : AllIn t S6 := HA
      have hsw : Sep w wr [tabRes b t] := HS
      by_cases hlt : i < l.length
      · obtain ⟨x, hx⟩ : ∃ x, l[i]? = some x := ⟨_, List.getElem?_eq_getElem hlt⟩
        obtain ⟨sb, so, rfl, hb, hh, hm, u0, u1, u2, u3⟩ := HST.out i x hx
        have c0 := (hsw.old.cell (p := ⟨sb, so + i * 4, none⟩) hb (by simp)).trans u0
        have c1 := (hsw.old.cell (p := ⟨sb, so + i * 4 + 1, none⟩) hb (by simp)).trans u1
        have c2 := (hsw.old.cell (p := ⟨sb, so + i * 4 + 2, none⟩) hb (by simp)).trans u2
        have c3 := (hsw.old.cell (p := ⟨sb, so + i * 4 + 3, none⟩) hb (by simp)).trans u3
        have HU := Lib.hid (And.intro hb (And.intro u2 u3))
        clear u0 u1 u2 u3
        have hmo := mod_any x.holder 6 wr (by omega) (by omega) hh.1 hh.2
        have h6 : 0 ≤ x.holder % 6 ∧ x.holder % 6 ≤ 5 := by omega
        have HMO := Lib.hid hmo
        have hltz : (i : Int) < (l.length : Int) := by omega
        have HNX := Lib.hid (stepT_good hgt x)
        have HNA := Lib.hid (stepT_in hgt hat x)
        have hwz : IntKind.i64.wrap (1 + x.holder % 6) = 1 + x.holder % 6 := IntWalk.i64_in _ (by omega)
        by_cases hk : x.kind = 1
        · have hc := release_any hgt HT.out (hOf x) hsw
          have e1 : stepT t x = (relM t (hOf x)).2 := by unfold stepT; rw [if_pos hk]
          rw [← e1] at hc
          unfold hOf at hc
          have HC := Lib.hid hc
          clear hx hmo hc e1 hgt hat hsw hb hh hm
          rw [hk] at c0
          go_wp2_with fail
          refine HMO.out.mono ?_
          rintro e w3 ⟨rfl, rfl⟩
          go_wp2_with fail
          refine HC.out.mono ?_
          rintro e w3 ⟨p3, q3, rfl, hs3⟩
          have HS3 := Lib.hid hs3.tail
          clear hs3
          have hth := things_any HNX.out HS3.out
          have HTH := Lib.hid hth
          obtain ⟨t', ht'⟩ : ∃ t', t' = stepT t x := ⟨_, rfl⟩
          rw [← ht'] at HTH HS3 HNX HNA
          clear hth ht'
          go_wp2_with fail
          refine HTH.out.mono ?_
          rintro e w4 ⟨p4, q4, rfl, hs4⟩
          obtain ⟨nt, hnt⟩ : ∃ nt, nt = t'.length := ⟨_, rfl⟩
          have hnt2 : nt ≤ 256 := by rw [hnt]; exact HNX.out.len
          rw [← hnt] at hs4 ⊢
          have HNT := Lib.hid hnt
          have HS4 := Lib.hid hs4
          clear hs4 hnt HTH HS3
          go_wp2_with fail
          go_loopg [7] nt (fun gg s7 wr => ∃ k : Nat, k ≤ nt ∧ nt - k ≤ gg ∧ s7 = .int .i64 k ∧ Aside (Sep w wr [rowRes 9 1 (.slice p4 nt q4) nt (strCells (t'.map (·.name))), tabRes b t']))
          case atStart => exact ⟨0, Nat.zero_le _, by omega, rfl, HS4.out⟩
          case round =>
            clear HS4
            obtain ⟨k, hk, hgg2, rfl, HS⟩ := hrel
            have hsw : Sep w wr [rowRes 9 1 (.slice p4 nt q4) nt (strCells (t'.map (·.name))), tabRes b t'] := HS
            obtain ⟨wk, hwk⟩ : ∃ wk, wk = wr := ⟨_, rfl⟩
            subst hwk
            by_cases hlt2 : k < nt
            · have hltz2 : (k : Int) < (nt : Int) := by omega
              obtain ⟨y, hy⟩ : ∃ y, t'[k]? = some y := ⟨t'[k]'(by rw [← HNT.out]; exact hlt2), List.getElem?_eq_getElem _⟩
              have hyt : y ∈ t' := List.mem_of_getElem? hy
              have hgy := HNX.out.each y hyt
              have hlx : 0 < (strCells (t'.map (·.name))).length := by unfold strCells; rw [List.length_map, List.length_map, ← HNT.out]; omega
              obtain ⟨g4, rfl⟩ := hsw.rowAt hlx
              have hmo := fun h => mode_any HNX.out h y.name hsw.up1
              have hma := fun h => mode_at HNX.out hyt h
              have hrc : (strCells (t'.map (·.name)))[k]? = some (.string y.name) := by unfold strCells; rw [List.getElem?_map, List.getElem?_map, hy]; rfl
              have r4 := (hsw.rowCell (j := k) hrc).1
              have HMO := Lib.hid hmo
              have HMA := Lib.hid hma
              have HGY := Lib.hid hgy
              have HSW := Lib.hid hsw
              clear hy hyt hgy hlx hmo hma hrc hsw HS
              go_wp2_with fail
              go_loopg [8, 9, 10] 6 (fun gg s8 s9 s10 wr => ∃ i s a : Nat, i ≤ 6 ∧ 6 - i ≤ gg ∧ s8 = .int .i64 s ∧ s9 = .int .i64 a ∧ s10 = .int .i64 ((i : Int) + 1) ∧ wk = wr ∧ Aside (CountsAt y i s a) ∧ a ≤ 1 ∧ s ≤ 6)
              case atStart => exact ⟨0, 0, 0, by omega, by omega, rfl, rfl, rfl, rfl, counts_zero y, by omega, by omega⟩
              case round =>
                obtain ⟨i, s, a, hi6, hgg3, rfl, rfl, rfl, rfl, HC, ha1, hs6⟩ := hrel
                have hca : CountsAt y i s a := HC
                by_cases hlt3 : i < 6
                · have hlz : ((i : Int) + 1) ≤ 6 := by omega
                  have hM := HMO.out ((i : Int) + 1)
                  have hA := HMA.out ((i : Int) + 1)
                  obtain ⟨md, hmd⟩ : ∃ md, md = modeM t' ((i : Int) + 1) y.name := ⟨_, rfl⟩
                  have h3 := mode_three HNX.out ((i : Int) + 1) y.name
                  rw [← hmd] at hM hA h3
                  have HM := Lib.hid hM
                  clear hM hmd
                  rcases h3 with rfl | rfl | rfl
                  · have HX := Lib.hid (counts_0 hca)
                    clear hca hA HC
                    go_wp2_with fail
                    refine HM.out.mono ?_
                    rintro e w5 ⟨rfl, rfl⟩
                    go_wp2_with fail
                    go_roundg (6 - (i + 1))
                    case measure => omega
                    case rel => exact ⟨i + 1, s, a, by omega, by omega, rfl, rfl, by go_num, rfl, HX.out, ha1, hs6⟩
                  · have hx := counts_1 HGY.out hca hA.symm
                    have hs7 : s + 1 ≤ i + 1 := hx.2.2
                    have HX := Lib.hid hx
                    clear hca hA HC hx
                    go_wp2_with fail
                    refine HM.out.mono ?_
                    rintro e w5 ⟨rfl, rfl⟩
                    go_wp2_with fail
                    go_roundg (6 - (i + 1))
                    case measure => omega
                    case rel => exact ⟨i + 1, s + 1, a, by omega, by omega, by go_num, rfl, by go_num, rfl, HX.out, ha1, by omega⟩
                  · have hx := counts_2 HGY.out hca hA.symm
                    have ha2 : a + 1 ≤ 1 := by
                      rcases hx.1 with q | q
                      · omega
                      · omega
                    have HX := Lib.hid hx
                    clear hca hA HC hx
                    go_wp2_with fail
                    refine HM.out.mono ?_
                    rintro e w5 ⟨rfl, rfl⟩
                    go_wp2_with fail
                    go_roundg (6 - (i + 1))
                    case measure => omega
                    case rel => exact ⟨i + 1, s, a + 1, by omega, by omega, rfl, by go_num, by go_num, rfl, HX.out, ha2, hs6⟩
                · have hlz : ¬ ((i : Int) + 1) ≤ 6 := by omega
                  rcases hca.1 with rfl | ⟨rfl, rfl, _⟩
                  · clear hca HC
                    go_wp2_with fail
                    go_roundg (nt - (k + 1))
                    case measure => omega
                    case rel => exact ⟨k + 1, by omega, by omega, by go_num, HSW.out⟩
                  · clear hca HC
                    go_wp2_with fail
                    go_roundg (nt - (k + 1))
                    case measure => omega
                    case rel => exact ⟨k + 1, by omega, by omega, by go_num, HSW.out⟩
            · have hltz2 : ¬ (k : Int) < (nt : Int) := by omega
              have HSW := Lib.hid hsw.up1
              clear hsw HS
              go_wp2_with fail
              go_loopg [11] 6 (fun gg s11 wr => ∃ j : Nat, j ≤ 6 ∧ 6 - j ≤ gg ∧ s11 = .int .i64 ((j : Int) + 1) ∧ Aside (Sep w wr [tabRes b t', rowRes 9 1 (.slice p4 nt q4) nt (strCells (t'.map (·.name)))]))
              case atStart => exact ⟨0, by omega, by omega, rfl, HSW.out⟩
              case round =>
                clear HSW
                obtain ⟨j, hj6, hgg3, rfl, HS⟩ := hrel
                have hsw : Sep w wr [tabRes b t', rowRes 9 1 (.slice p4 nt q4) nt (strCells (t'.map (·.name)))] := HS
                by_cases hlt3 : j < 6
                · have hlz : ((j : Int) + 1) ≤ 6 := by omega
                  have hwt := waits_any HNX.out ((j : Int) + 1) hsw
                  cases hwm : waitsM t' ((j : Int) + 1) with
                  | none =>
                    rw [hwm] at hwt
                    have HWT := Lib.hid hwt
                    have HSW := Lib.hid hsw
                    clear hwt hwm hsw HS
                    go_wp2_with (go_at_call 18; refine HWT.out.mono ?_; rintro e w6 ⟨rfl, rfl⟩; simp only [Option.getD_none, Option.isSome_none])
                    go_roundg (6 - (j + 1))
                    case measure => omega
                    case rel => exact ⟨j + 1, by omega, by omega, by go_num, HSW.out⟩
                  | some sn =>
                    rw [hwm] at hwt
                    have HWT := Lib.hid hwt
                    have hm2 := waits_mode HNX.out hwm
                    have hmd := mode_any HNX.out ((j : Int) + 1) sn hsw
                    obtain ⟨md, hmd2⟩ : ∃ md, md = modeM t' ((j : Int) + 1) sn := ⟨_, rfl⟩
                    have h3 := mode_three HNX.out ((j : Int) + 1) sn
                    rw [← hmd2] at hmd h3 hm2
                    have HMD := Lib.hid hmd
                    have HFR := Lib.hid (for_any HNX.out HT.out ((j : Int) + 1) hsw)
                    have HWS := Lib.hid (waits_some HNX.out hwm)
                    clear hwt hwm hmd hmd2 hsw HS
                    have h4 : md = 0 ∨ md = 1 := by omega
                    clear h3 hm2
                    rcases h4 with rfl | rfl
                    all_goals
                      go_wp2_with (first | (go_at_call 18; refine HWT.out.mono ?_; rintro e w6 ⟨rfl, rfl⟩; simp only [Option.getD_some, Option.isSome_some]) | (go_at_call 20; refine HMD.out.mono ?_; rintro e w6 ⟨rfl, rfl⟩))
                      refine HFR.out.mono ?_
                      rintro e w7 ⟨xs, p7, q7, rfl, hr7, hm7, hs7⟩
                      have hxn : ¬ ((xs.length : Int) = 0) := by
                        intro e0
                        obtain ⟨o, ho⟩ := HWS.out
                        have := (hm7 o).2 ho
                        have hx0 : xs = [] := List.eq_nil_of_length_eq_zero (by omega)
                        rw [hx0] at this
                        cases this
                      have HS7 := Lib.hid hs7.tail
                      clear hr7 hm7 hs7
                      go_wp2_with fail
                      go_roundg (6 - (j + 1))
                      case measure => omega
                      case rel => exact ⟨j + 1, by omega, by omega, by go_num, HS7.out⟩
                · have hlz : ¬ ((j : Int) + 1) ≤ 6 := by omega
                  have HSW := Lib.hid (hsw.up1.tail)
                  clear hsw HS
                  go_wp2_with fail
                  go_roundg (l.length - (i + 1))
                  case measure => omega
                  case rel => exact ⟨i + 1, t', by omega, by omega, by go_num, HNX.out, HNA.out, HSW.out⟩
        · have hc := fun V (hV : Only [] wr V) => take_any hgt HT.out (hOf x) x.thing x.mode (hsw.only hV)
          have e1 : stepT t x = (takeM t (hOf x) x.thing x.mode).2 := by unfold stepT; rw [if_neg hk]
          rw [← e1] at hc
          unfold hOf at hc
          have HC := Lib.hid hc
          clear hx hmo hc e1 hgt hat hsw hb hh hm
          go_wp2_with fail
          refine HMO.out.mono ?_
          rintro e w3 ⟨rfl, rfl⟩
          go_upto_region 10 with fail
          go_region_held3 (fun w' => w'.cell? ⟨sb, so + i * 4 + 2, none⟩ = some (.string x.thing) ∧ w'.cell? ⟨sb, so + i * 4 + 3, none⟩ = some (.int .i64 x.mode)) (first | go_keep | (refine ⟨?_, ?_⟩ <;> assumption)) (first | (go_at_call 13; refine (HC.out _ (by first | exact Only.refl _ _ | exact Only.drew [] _ | exact Only.drewN [] _ _)).mono ?_; rintro e w5 ⟨rfl, hs5⟩; have k2 := (hs5.old.cell (p := ⟨sb, so + i * 4 + 2, none⟩) HU.out.1 (by simp)).trans HU.out.2.1; have k3 := (hs5.old.cell (p := ⟨sb, so + i * 4 + 3, none⟩) HU.out.1 (by simp)).trans HU.out.2.2; have HS5 := Lib.hid hs5; clear hs5))
          all_goals
            have HS3 := HS5
            clear HS5
            have hth := things_any HNX.out HS3.out
            have HTH := Lib.hid hth
            obtain ⟨t', ht'⟩ : ∃ t', t' = stepT t x := ⟨_, rfl⟩
            rw [← ht'] at HTH HS3 HNX HNA
            clear hth ht'
            go_wp2_with fail
            refine HTH.out.mono ?_
            rintro e w4 ⟨p4, q4, rfl, hs4⟩
            obtain ⟨nt, hnt⟩ : ∃ nt, nt = t'.length := ⟨_, rfl⟩
            have hnt2 : nt ≤ 256 := by rw [hnt]; exact HNX.out.len
            rw [← hnt] at hs4 ⊢
            have HNT := Lib.hid hnt
            have HS4 := Lib.hid hs4
            clear hs4 hnt HTH HS3
            go_wp2_with fail
            go_loopg [7] nt (fun gg s7 wr => ∃ k : Nat, k ≤ nt ∧ nt - k ≤ gg ∧ s7 = .int .i64 k ∧ Aside (Sep w wr [rowRes 9 1 (.slice p4 nt q4) nt (strCells (t'.map (·.name))), tabRes b t']))
            case atStart => exact ⟨0, Nat.zero_le _, by omega, rfl, HS4.out⟩
            case round =>
              clear HS4
              obtain ⟨k, hk, hgg2, rfl, HS⟩ := hrel
              have hsw : Sep w wr [rowRes 9 1 (.slice p4 nt q4) nt (strCells (t'.map (·.name))), tabRes b t'] := HS
              obtain ⟨wk, hwk⟩ : ∃ wk, wk = wr := ⟨_, rfl⟩
              subst hwk
              by_cases hlt2 : k < nt
              · have hltz2 : (k : Int) < (nt : Int) := by omega
                obtain ⟨y, hy⟩ : ∃ y, t'[k]? = some y := ⟨t'[k]'(by rw [← HNT.out]; exact hlt2), List.getElem?_eq_getElem _⟩
                have hyt : y ∈ t' := List.mem_of_getElem? hy
                have hgy := HNX.out.each y hyt
                have hlx : 0 < (strCells (t'.map (·.name))).length := by unfold strCells; rw [List.length_map, List.length_map, ← HNT.out]; omega
                obtain ⟨g4, rfl⟩ := hsw.rowAt hlx
                have hmo := fun h => mode_any HNX.out h y.name hsw.up1
                have hma := fun h => mode_at HNX.out hyt h
                have hrc : (strCells (t'.map (·.name)))[k]? = some (.string y.name) := by unfold strCells; rw [List.getElem?_map, List.getElem?_map, hy]; rfl
                have r4 := (hsw.rowCell (j := k) hrc).1
                have HMO := Lib.hid hmo
                have HMA := Lib.hid hma
                have HGY := Lib.hid hgy
                have HSW := Lib.hid hsw
                clear hy hyt hgy hlx hmo hma hrc hsw HS
                go_wp2_with fail
                go_loopg [8, 9, 10] 6 (fun gg s8 s9 s10 wr => ∃ i s a : Nat, i ≤ 6 ∧ 6 - i ≤ gg ∧ s8 = .int .i64 s ∧ s9 = .int .i64 a ∧ s10 = .int .i64 ((i : Int) + 1) ∧ wk = wr ∧ Aside (CountsAt y i s a) ∧ a ≤ 1 ∧ s ≤ 6)
                case atStart => exact ⟨0, 0, 0, by omega, by omega, rfl, rfl, rfl, rfl, counts_zero y, by omega, by omega⟩
                case round =>
                  obtain ⟨i, s, a, hi6, hgg3, rfl, rfl, rfl, rfl, HC, ha1, hs6⟩ := hrel
                  have hca : CountsAt y i s a := HC
                  by_cases hlt3 : i < 6
                  · have hlz : ((i : Int) + 1) ≤ 6 := by omega
                    have hM := HMO.out ((i : Int) + 1)
                    have hA := HMA.out ((i : Int) + 1)
                    obtain ⟨md, hmd⟩ : ∃ md, md = modeM t' ((i : Int) + 1) y.name := ⟨_, rfl⟩
                    have h3 := mode_three HNX.out ((i : Int) + 1) y.name
                    rw [← hmd] at hM hA h3
                    have HM := Lib.hid hM
                    clear hM hmd
                    rcases h3 with rfl | rfl | rfl
                    · have HX := Lib.hid (counts_0 hca)
                      clear hca hA HC
                      go_wp2_with fail
                      refine HM.out.mono ?_
                      rintro e w5 ⟨rfl, rfl⟩
                      go_wp2_with fail
                      go_roundg (6 - (i + 1))
                      case measure => omega
                      case rel => exact ⟨i + 1, s, a, by omega, by omega, rfl, rfl, by go_num, rfl, HX.out, ha1, hs6⟩
                    · have hx := counts_1 HGY.out hca hA.symm
                      have hs7 : s + 1 ≤ i + 1 := hx.2.2
                      have HX := Lib.hid hx
                      clear hca hA HC hx
                      go_wp2_with fail
                      refine HM.out.mono ?_
                      rintro e w5 ⟨rfl, rfl⟩
                      go_wp2_with fail
                      go_roundg (6 - (i + 1))
                      case measure => omega
                      case rel => exact ⟨i + 1, s + 1, a, by omega, by omega, by go_num, rfl, by go_num, rfl, HX.out, ha1, by omega⟩
                    · have hx := counts_2 HGY.out hca hA.symm
                      have ha2 : a + 1 ≤ 1 := by
                        rcases hx.1 with q | q
                        · omega
                        · omega
                      have HX := Lib.hid hx
                      clear hca hA HC hx
                      go_wp2_with fail
                      refine HM.out.mono ?_
                      rintro e w5 ⟨rfl, rfl⟩
                      go_wp2_with fail
                      go_roundg (6 - (i + 1))
                      case measure => omega
                      case rel => exact ⟨i + 1, s, a + 1, by omega, by omega, rfl, by go_num, by go_num, rfl, HX.out, ha2, hs6⟩
                  · have hlz : ¬ ((i : Int) + 1) ≤ 6 := by omega
                    rcases hca.1 with rfl | ⟨rfl, rfl, _⟩
                    · clear hca HC
                      go_wp2_with fail
                      go_roundg (nt - (k + 1))
                      case measure => omega
                      case rel => exact ⟨k + 1, by omega, by omega, by go_num, HSW.out⟩
                    · clear hca HC
                      go_wp2_with fail
                      go_roundg (nt - (k + 1))
                      case measure => omega
                      case rel => exact ⟨k + 1, by omega, by omega, by go_num, HSW.out⟩
              · have hltz2 : ¬ (k : Int) < (nt : Int) := by omega
                have HSW := Lib.hid hsw.up1
                clear hsw HS
                go_wp2_with fail
                go_loopg [11] 6 (fun gg s11 wr => ∃ j : Nat, j ≤ 6 ∧ 6 - j ≤ gg ∧ s11 = .int .i64 ((j : Int) + 1) ∧ Aside (Sep w wr [tabRes b t', rowRes 9 1 (.slice p4 nt q4) nt (strCells (t'.map (·.name)))]))
                case atStart => exact ⟨0, by omega, by omega, rfl, HSW.out⟩
                case round =>
                  clear HSW
                  obtain ⟨j, hj6, hgg3, rfl, HS⟩ := hrel
                  have hsw : Sep w wr [tabRes b t', rowRes 9 1 (.slice p4 nt q4) nt (strCells (t'.map (·.name)))] := HS
                  by_cases hlt3 : j < 6
                  · have hlz : ((j : Int) + 1) ≤ 6 := by omega
                    have hwt := waits_any HNX.out ((j : Int) + 1) hsw
                    cases hwm : waitsM t' ((j : Int) + 1) with
                    | none =>
                      rw [hwm] at hwt
                      have HWT := Lib.hid hwt
                      have HSW := Lib.hid hsw
                      clear hwt hwm hsw HS
                      go_wp2_with (go_at_call 18; refine HWT.out.mono ?_; rintro e w6 ⟨rfl, rfl⟩; simp only [Option.getD_none, Option.isSome_none])
                      go_roundg (6 - (j + 1))
                      case measure => omega
                      case rel => exact ⟨j + 1, by omega, by omega, by go_num, HSW.out⟩
                    | some sn =>
                      rw [hwm] at hwt
                      have HWT := Lib.hid hwt
                      have hm2 := waits_mode HNX.out hwm
                      have hmd := mode_any HNX.out ((j : Int) + 1) sn hsw
                      obtain ⟨md, hmd2⟩ : ∃ md, md = modeM t' ((j : Int) + 1) sn := ⟨_, rfl⟩
                      have h3 := mode_three HNX.out ((j : Int) + 1) sn
                      rw [← hmd2] at hmd h3 hm2
                      have HMD := Lib.hid hmd
                      have HFR := Lib.hid (for_any HNX.out HT.out ((j : Int) + 1) hsw)
                      have HWS := Lib.hid (waits_some HNX.out hwm)
                      clear hwt hwm hmd hmd2 hsw HS
                      have h4 : md = 0 ∨ md = 1 := by omega
                      clear h3 hm2
                      rcases h4 with rfl | rfl
                      all_goals
                        go_wp2_with (first | (go_at_call 18; refine HWT.out.mono ?_; rintro e w6 ⟨rfl, rfl⟩; simp only [Option.getD_some, Option.isSome_some]) | (go_at_call 20; refine HMD.out.mono ?_; rintro e w6 ⟨rfl, rfl⟩))
                        refine HFR.out.mono ?_
                        rintro e w7 ⟨xs, p7, q7, rfl, hr7, hm7, hs7⟩
                        have hxn : ¬ ((xs.length : Int) = 0) := by
                          intro e0
                          obtain ⟨o, ho⟩ := HWS.out
                          have := (hm7 o).2 ho
                          have hx0 : xs = [] := List.eq_nil_of_length_eq_zero (by omega)
                          rw [hx0] at this
                          cases this
                        have HS7 := Lib.hid hs7.tail
                        clear hr7 hm7 hs7
                        go_wp2_with fail
                        go_roundg (6 - (j + 1))
                        case measure => omega
                        case rel => exact ⟨j + 1, by omega, by omega, by go_num, HS7.out⟩
                  · have hlz : ¬ ((j : Int) + 1) ≤ 6 := by omega
                    have HSW := Lib.hid (hsw.up1.tail)
                    clear hsw HS
                    go_wp2_with fail
                    go_roundg (l.length - (i + 1))
                    case measure => omega
                    case rel => exact ⟨i + 1, t', by omega, by omega, by go_num, HNX.out, HNA.out, HSW.out⟩
      · have hltz : ¬ (i : Int) < (l.length : Int) := by omega
        have HO7 := Lib.hid hsw.old
        clear hgt hat hsw HG HA HS
        go_wp2_with fail
        refine (wakes_any wr (HT.out.only HO7.out)).mono ?_
        rintro e w8 ⟨rfl, ho8⟩
        have HO8 := Lib.hid (HO7.out.trans ho8 (Within.nil _ _))
        clear ho8
        go_wp2_with fail
        go_ret
        exact ⟨rfl, HO8.out⟩

set_option maxRecDepth 100000 in
theorem lifted (os : Os) (started : os.Started) (H : Type) (enc : TypeId × Value → H) :
    ReturnsInHanded {} Tryd.checked os 4 .any (fun w args => (Rows.lockAloneSpec.pre enc Tryd.prog Tryd.f4 Rows.lockAloneRow.domain false w args ∧ laidMetH Tryd.prog Rows.lockAloneRow.laid w) ∧ sizedMet enc Tryd.prog Tryd.f4 (OpenSpec.ofChange Rows.lockAloneSpec) false w args)
      (Rows.lockAloneSpec.post enc Tryd.prog Tryd.f4 false true false false) := by
  refine returnsInHanded_of_change_and (C := Tryd.checked) (X := fun w _ => laidMetH Tryd.prog Rows.lockAloneRow.laid w) (fun _ _ _ hh h => h.of_heap hh) own started (by kernel_rfl) Tryd.func4
    (ChangeSpec.witness_shaped (enc := enc) (C := Tryd.checked) (os := os) (X := fun w _ => laidMetH Tryd.prog Rows.lockAloneRow.laid w) false (World.laidAll Tryd.prog os Rows.lockAloneRow.laid) #[.slice none 0 0] 8 (World.laidAll_os _ _ _)
      (World.shaped_of_ZipB (by kernel_rfl) (by kernel_rfl)) (by kernel_rfl) (by kernel_rfl) (by kernel_rfl)
      (by rw [MakeChecks.laidMetH_plain _ _ _ (by kernel_rfl)]; exact laidMet_laidAll _ (by kernel_rfl) (by kernel_rfl))) ?_
  intro W base args ds gs before hval0 hW _ _ hL _
  have htog : Tog W := tog_of_laid hL
  have hval : ∀ (j : Nat) t v, Tryd.f4.params[j]? = some t → args[j]? = some v → Value.okWide Tryd.prog W .any base t v := hval0
  have hW' := hW
  obtain ⟨pp, pq, hA0, hV, rfl, hfz, hnd⟩ := hW
  have hA : DataW.TrodAll enc Tryd.prog W 0 (fun _ => true) true Tryd.f4.params.toList args.toList ds pp := hA0
  rw [Tryd.params4] at hA hval
  obtain ⟨v0, vs0, d0, ds0, p0, q0, hargs, rfl, rfl, h0, r0⟩ := trodAll_cons hA
  obtain ⟨rfl, rfl, rfl⟩ := trodAll_nil r0
  obtain rfl : args = #[v0] := by cases args; simp_all
  obtain ⟨rfl, rfl⟩ := trodVars_none hV
  obtain ⟨sp0, sl0, sq0, rfl, hl0, hst0⟩ := open_steps (W := W) (v := v0) (by
    obtain ⟨a, len, cap, rfl⟩ := okWide_slice Tryd.underlying22 (hval 0 22 v0 rfl rfl)
    exact ⟨a, len, cap, rfl⟩) h0
  clear hA0 hval0
  simp only [List.append_nil] at hW'
  refine (walk sp0 sl0 sq0 W hl0 hst0 htog).mono fun e W' ⟨he, hg⟩ => ?_
  subst he
  have hb : Below W.heap.size W W' := hg.below (Nat.le_refl _) (by simp)
  have hargs := (trodAll_cons_mk (Below.trod laidOut (by kernel_rfl) (of_decide_eq_true (by kernel_rfl)) h0 hb (fun x hx => hW'.lt x (by simp [hx]))) trodAll_mk0)
  simp only [List.append_nil] at hargs
  exact ⟨_, rfl, _, _, _, [], _, [], hW', trodAll_cons_mk (shut_bool Tryd.underlying4 _) trodAll_mk0, hargs, rfl, hb.frame _, fun h => by cases h⟩

theorem over : Rows.LockAloneSaid :=
  OpenClaim.holds_of_wide 4 Tryd.f4 rfl rfl rfl rfl rfl rfl rfl ⟨rfl, rfl, rfl, rfl, rfl⟩ rfl rfl rfl rfl rfl (by kernel_rfl) Tryd.func4 (by kernel_rfl)
    (of_decide_eq_true (by kernel_rfl)) (by unfold Func.isWrapper; first | (rw [if_pos (by decide +kernel)]; kernel_rfl) | (rw [if_neg (by decide +kernel)]; exact ⟨rfl, rfl⟩))
    (fun os started H enc _ => lifted os started H enc)

theorem proved : Rows.LockAloneCardSaid :=
  Claim7.holds_tied_plain_at .later [] [.data] true Rows.lockAloneCard.stood.harness false over (fun _ h => by cases h) (by kernel_rfl) (fun _ h => by cases h) lockAlone_row_tie rfl ⟨rfl, rfl⟩ (by kernel_rfl) rfl
    (fun f fn hf hfn => by
      obtain rfl : f = 4 := Option.some.inj ((show Tryd.prog.funcNamed "hedgerow/hedgerowlaw12.LockAlone" = some 4 by kernel_rfl).symm.trans hf) |>.symm
      obtain rfl : fn = Tryd.f4 := (Option.some.inj (Tryd.func4.symm.trans hfn)).symm
      exact ⟨by kernel_rfl, fun j t ht => by
        rw [Tryd.params4] at ht
        have hm : t ∈ [22] := by simpa using Array.mem_of_getElem? ht
        have hall : ([22].all fun u => !Tryd.prog.wantsStandIn u) = true := by kernel_rfl
        exact (show Tryd.prog.wantsStandIn t = false by simpa using List.all_eq_true.1 hall t hm)⟩)
    (by kernel_rfl)
#print axioms proved
end Go.Proofs.YtipfjjcokajjjaaDoor.lockAlone
