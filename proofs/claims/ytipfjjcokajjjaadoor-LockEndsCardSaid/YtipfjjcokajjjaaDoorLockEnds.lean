/-
  What is proved here: the statement LockEnds: who waits goes on, once all for whom it waits have released; when all have, nothing is locked; for every input.
  No condition beyond the row's own (the table of the modes is as the program lays it).
-/
import Derived.Test.YtipfjjcokajjjaaDoorLkZ
import Derived.Test.YtipfjjcokajjjaaDoorLkP
import Derived.Test.YtipfjjcokajjjaaDoorTie
import Derived.Test.YtipfjjcokajjjaaDoorCards
import Derived.LaidMore
import Derived.Lay
import Derived.SevenTiedAt
import Derived.Stop.Joined
import Derived.Deep.LoopGhost
import Derived.Deep.DeepCutAuto
import Derived.Deep.CutBlock
namespace Go.Proofs.YtipfjjcokajjjaaDoor.lockEnds
open Go.ChangeShapes Go.WideShapes Go.ChangeAt Go.RowKit Go.Proofs.YtipfjjcokajjjaaDoor
set_option linter.unusedVariables false
set_option linter.unusedSimpArgs false

def S6 : Int → Prop := fun a => 1 ≤ a ∧ a ≤ 6
def hOf (x : StepD) : Int := 1 + x.holder % 6
theorem hOf_in (x : StepD) : S6 (hOf x) := by unfold S6 hOf; omega
/-- What a step does. -/
def stepT (t : Tab) (x : StepD) : Tab := if x.kind = 1 then (relM t (hOf x)).2 else (takeM t (hOf x) x.thing x.mode).2
theorem stepT_good {t : Tab} (hg : Good t) (x : StepD) : Good (stepT t x) := by
  unfold stepT
  split
  · exact relM_good hg _
  · exact takeM_good hg _ _ _
theorem stepT_in {t : Tab} (hg : Good t) (ha : AllIn t S6) (x : StepD) : AllIn (stepT t x) S6 := by
  unfold stepT
  split
  · intro z hz
    have := allIn_rel hg ha (hOf x) z hz
    exact ⟨fun y hy => (this.1 y hy).1, fun y hy => (this.2 y hy).1⟩
  · exact allIn_take hg ha (hOf_in x) _ _

theorem isFor_ne {t : Tab} (hg : Good t) {h o : Int} (hf : IsFor t h o) : o ≠ h := by
  obtain ⟨x, hx, m, a, b, e, hor⟩ := hf
  rcases hor with ⟨y, hy, rfl⟩ | ⟨y, hy, rfl, hb⟩
  · intro hc
    have := (hg.each x hx).q.1
    rw [e, List.map_append, List.map_cons] at this
    exact (List.nodup_append.1 this).2.2 _ (List.mem_map.2 ⟨y, hy, rfl⟩) _ (List.mem_cons_self ..) hc
  · intro hc
    simp [barsB, hc] at hb

set_option maxRecDepth 100000 in
set_option maxHeartbeats 8000000 in
theorem walk (p : Option Addr) (l : List StepD) (q : Nat) (who : Int) (w : World) (hl : ((l.length : Nat) : Int) ≤ 9223372036854775807) (hst : StepsAt w p l) (hwho : inI64 who) (htog : Tog w) :
    Calls Tryd.prog 5 #[.slice p l.length q, .int .i64 who] w fun e w' => e = .returned (.bool true) ∧ Only [] w w' := by
  have HT := Lib.hid htog
  have HN := Lib.hid (Sep.nil w)
  have HST := Lib.hid hst
  have HWH := Lib.hid hwho
  clear htog hst hwho
  go_enter Tryd.func5, Tryd.ntmps5
  go_wp2_with (go_at_call 10; refine (new_any HN.out).mono ?_; rintro e w1 ⟨b, rfl, hs1⟩; have HS1 := Lib.hid hs1; clear hs1)
  refine (fair_any p l q w1 hl (HST.out.only HS1.out.old)).mono ?_
  rintro e w2 ⟨rfl, rfl⟩
  cases hfair : fairB l with
  | false =>
    go_wp2_with fail
    refine (wakes_any w1 (HT.out.only HS1.out.old)).mono ?_
    rintro e w3 ⟨rfl, ho3⟩
    have HO3 := Lib.hid (HS1.out.old.trans ho3 (Within.nil _ _))
    clear ho3
    go_wp2_with fail
    go_ret
    exact ⟨rfl, HO3.out⟩
  | true =>
    have hfl := (fair_true hfair).1
    clear hfair
    go_wp2_with fail
    go_loopg [6, 7] l.length (fun gg s6 _ wr => ∃ (i : Nat) (t : Tab), i ≤ l.length ∧ l.length - i ≤ gg ∧ s6 = .int .i64 i ∧ Aside (Good t) ∧ Aside (AllIn t S6) ∧ Aside (Sep w wr [tabRes b t]))
    case atStart => exact ⟨0, [], Nat.zero_le _, by omega, rfl, good_nil, (fun x hx => (by cases hx) : AllIn [] S6), HS1.out⟩
    case round =>
      obtain ⟨i, t, hi, hgg, rfl, HG, HA, HS⟩ := hrel
      clear HS1
      have hgt : Good t := HG
      have hat : AllIn t S6 := HA
      have hsw : Sep w wr [tabRes b t] := HS
      by_cases hlt : i < l.length
      · obtain ⟨x, hx⟩ : ∃ x, l[i]? = some x := ⟨_, List.getElem?_eq_getElem hlt⟩
        obtain ⟨sb, so, rfl, hb, hh, hm, u0, u1, u2, u3⟩ := HST.out i x hx
        have c0 := (hsw.old.cell (p := ⟨sb, so + i * 4, none⟩) hb (by simp)).trans u0
        have c1 := (hsw.old.cell (p := ⟨sb, so + i * 4 + 1, none⟩) hb (by simp)).trans u1
        have c2 := (hsw.old.cell (p := ⟨sb, so + i * 4 + 2, none⟩) hb (by simp)).trans u2
        have c3 := (hsw.old.cell (p := ⟨sb, so + i * 4 + 3, none⟩) hb (by simp)).trans u3
        have HU := Lib.hid (And.intro hb (And.intro u2 u3))
        clear u0 u1 u2 u3
        have hmo := mod_any x.holder 6 wr (by omega) (by omega) hh.1 hh.2
        have h6 : 0 ≤ x.holder % 6 ∧ x.holder % 6 ≤ 5 := by omega
        have HMO := Lib.hid hmo
        have hltz : (i : Int) < (l.length : Int) := by omega
        have HNX := Lib.hid (stepT_good hgt x)
        have HNA := Lib.hid (stepT_in hgt hat x)
        have hwz : IntKind.i64.wrap (1 + x.holder % 6) = 1 + x.holder % 6 := IntWalk.i64_in _ (by omega)
        by_cases hk : x.kind = 1
        · have hc := release_any hgt HT.out (hOf x) hsw
          have e1 : stepT t x = (relM t (hOf x)).2 := by unfold stepT; rw [if_pos hk]
          rw [← e1] at hc
          unfold hOf at hc
          have HC := Lib.hid hc
          clear hx hmo hc e1 hgt hat hsw hb hh hm
          rw [hk] at c0
          go_wp2_with fail
          refine HMO.out.mono ?_
          rintro e w3 ⟨rfl, rfl⟩
          go_wp2_with fail
          refine HC.out.mono ?_
          rintro e w3 ⟨p3, q3, rfl, hs3⟩
          have HS3 := Lib.hid hs3.tail
          clear hs3
          go_wp2_with fail
          go_roundg (l.length - (i + 1))
          case measure => omega
          case rel => exact ⟨i + 1, _, by omega, by omega, by go_num, HNX.out, HNA.out, HS3.out⟩
        · have hc := fun V (hV : Only [] wr V) => take_any hgt HT.out (hOf x) x.thing x.mode (hsw.only hV)
          have e1 : stepT t x = (takeM t (hOf x) x.thing x.mode).2 := by unfold stepT; rw [if_neg hk]
          rw [← e1] at hc
          unfold hOf at hc
          have HC := Lib.hid hc
          clear hx hmo hc e1 hgt hat hsw hb hh hm
          go_wp2_with fail
          refine HMO.out.mono ?_
          rintro e w3 ⟨rfl, rfl⟩
          go_upto_region 10 with fail
          go_region_held3 (fun w' => w'.cell? ⟨sb, so + i * 4 + 2, none⟩ = some (.string x.thing) ∧ w'.cell? ⟨sb, so + i * 4 + 3, none⟩ = some (.int .i64 x.mode)) (first | go_keep | (refine ⟨?_, ?_⟩ <;> assumption)) (first | (go_at_call 13; refine (HC.out _ (by first | exact Only.refl _ _ | exact Only.drew [] _ | exact Only.drewN [] _ _)).mono ?_; rintro e w5 ⟨rfl, hs5⟩; have k2 := (hs5.old.cell (p := ⟨sb, so + i * 4 + 2, none⟩) HU.out.1 (by simp)).trans HU.out.2.1; have k3 := (hs5.old.cell (p := ⟨sb, so + i * 4 + 3, none⟩) HU.out.1 (by simp)).trans HU.out.2.2; have HS5 := Lib.hid hs5; clear hs5))
          all_goals
            go_wp2_with fail
            go_roundg (l.length - (i + 1))
            case measure => omega
            case rel => exact ⟨i + 1, _, by omega, by omega, by go_num, HNX.out, HNA.out, HS5.out⟩
      · have hltz : ¬ (i : Int) < (l.length : Int) := by omega
        obtain ⟨wi, rfl⟩ : ∃ wi, wi = wr := ⟨_, rfl⟩
        have hmo := mod_any who 6 wi (by omega) (by omega) HWH.out.1 HWH.out.2
        have h6 : 0 ≤ who % 6 ∧ who % 6 ≤ 5 := by omega
        have HMO := Lib.hid hmo
        have hwz : IntKind.i64.wrap (1 + who % 6) = 1 + who % 6 := IntWalk.i64_in _ (by omega)
        have HGT := Lib.hid hgt
        have HAT := Lib.hid hat
        have HSW := Lib.hid hsw
        obtain ⟨h, hh⟩ : ∃ h, h = 1 + who % 6 := ⟨_, rfl⟩
        have HH := Lib.hid hh
        clear hmo hgt hat hsw HG HA HS hh
        go_wp2_with fail
        refine HMO.out.mono ?_
        rintro e w3 ⟨rfl, rfl⟩
        go_upto_region 12 with fail
        rw [← HH.out]
        clear hwz h6
        have hwt := waits_any HGT.out h HSW.out
        cases hwm : waitsM t h with
        | none =>
          rw [hwm] at hwt
          have HWT := Lib.hid hwt
          clear hwt hwm
          go_wp2_with (go_at_call 18; refine HWT.out.mono ?_; rintro e w3 ⟨rfl, rfl⟩; simp only [Option.getD_none, Option.isSome_none])
          go_loopg [15] 6 (fun gg s15 wr => ∃ (k : Nat) (t : Tab), k ≤ 6 ∧ 6 - k ≤ gg ∧ s15 = .int .i64 ((k : Int) + 1) ∧ Aside (Good t) ∧ Aside (AllIn t (fun a => (k : Int) < a ∧ a ≤ 6)) ∧ Aside (Sep w wr (tabRes b t :: [])))
          case atStart => exact ⟨0, t, Nat.zero_le _, by omega, rfl, HGT.out, (fun z hz => ⟨fun y hy => by have := (HAT.out z hz).1 y hy; unfold S6 at this; exact ⟨by show (0 : Int) < y.1; omega, this.2⟩, fun y hy => by have := (HAT.out z hz).2 y hy; unfold S6 at this; exact ⟨by show (0 : Int) < y.1; omega, this.2⟩⟩ : AllIn t (fun a => ((0 : Nat) : Int) < a ∧ a ≤ 6)), HSW.out⟩
          case round =>
            clear HGT HAT HSW
            obtain ⟨k, t, hk, hgg3, rfl, HG, HA, HS⟩ := hrel
            have hgt : Good t := HG
            have hat : AllIn t (fun a => (k : Int) < a ∧ a ≤ 6) := HA
            have hsw : Sep w wr (tabRes b t :: []) := HS
            by_cases hlt3 : k < 6
            · have hlz : ((k : Int) + 1) ≤ 6 := by omega
              have HC := Lib.hid (release_any hgt HT.out ((k : Int) + 1) hsw)
              have HNG := Lib.hid (relM_good hgt ((k : Int) + 1))
              have HNA : Hid (AllIn (relM t ((k : Int) + 1)).2 (fun a => ((k + 1 : Nat) : Int) < a ∧ a ≤ 6)) := Lib.hid (fun z hz => by
                have h0 := allIn_rel hgt hat ((k : Int) + 1) z hz
                exact ⟨fun y hy => by have := h0.1 y hy; exact ⟨by omega, this.1.2⟩, fun y hy => by have := h0.2 y hy; exact ⟨by omega, this.1.2⟩⟩)
              clear hgt hat hsw HG HA HS
              go_wp2_with fail
              refine HC.out.mono ?_
              rintro e w7 ⟨p7, q7, rfl, hs7⟩
              have HS7 := Lib.hid hs7.tail
              clear hs7
              go_wp2_with fail
              go_roundg (6 - (k + 1))
              case measure => omega
              case rel => exact ⟨k + 1, _, by omega, by omega, by go_num, HNG.out, HNA.out, HS7.out⟩
            · have hk6 : k = 6 := by omega
              subst hk6
              have ht0 : t = [] := allIn_none hgt (fun z hz => ⟨fun y hy => by have := (hat z hz).1 y hy; simp at this; omega, fun y hy => by have := (hat z hz).2 y hy; simp at this; omega⟩)
              subst ht0
              have HC := Lib.hid (things_any good_nil hsw)
              clear hgt hat hsw HG HA HS
              go_wp2_with fail
              refine HC.out.mono ?_
              rintro e w7 ⟨p7, q7, rfl, hs7⟩
              have HO7 := Lib.hid hs7.old
              clear hs7
              go_wp2_with fail
              refine (wakes_any w7 (HT.out.only HO7.out)).mono ?_
              rintro e w8 ⟨rfl, ho8⟩
              have HO8 := Lib.hid (HO7.out.trans ho8 (Within.nil _ _))
              clear ho8
              go_wp2_with fail
              go_ret
              exact ⟨rfl, HO8.out⟩
        | some s =>
          rw [hwm] at hwt
          have HWT := Lib.hid hwt
          have hfr := for_any HGT.out HT.out h HSW.out
          have HFR := Lib.hid hfr
          have HWM := Lib.hid hwm
          clear hwt hwm hfr
          go_wp2_with (first | (go_at_call 18; refine HWT.out.mono ?_; rintro e w3 ⟨rfl, rfl⟩; simp only [Option.getD_some, Option.isSome_some]) | (go_at_call 22; refine HFR.out.mono ?_; rintro e w4 ⟨xs, p4, q4, rfl, hr4, hm4, hs4⟩))
          obtain ⟨nx, hnx⟩ : ∃ nx, nx = xs.length := ⟨_, rfl⟩
          rw [← hnx] at hs4 ⊢
          have hxl : nx ≤ 1001 := by
            rw [hnx]
            have h1 : (xs.map Int.toNat).Nodup := by
              refine List.pairwise_map.2 (List.Pairwise.imp_of_mem ?_ hr4)
              intro a b ha hb hab e
              have h2 : ∀ o ∈ xs, 1 ≤ o := fun o ho => by
                obtain ⟨z, hz, m, u, v, e, hor⟩ := (hm4 o).1 ho
                rcases hor with ⟨y, hy, rfl⟩ | ⟨y, hy, rfl, _⟩
                · exact ((HGT.out.each z hz).q.2 y (by rw [e]; simp [hy])).1
                · exact ((HGT.out.each z hz).has.2 y hy).1
              have := h2 a ha
              have := h2 b hb
              omega
            have h3 := nodup_len 1001 _ h1 (fun a ha => by
              obtain ⟨o, ho, rfl⟩ := List.mem_map.1 ha
              obtain ⟨z, hz, m, u, v, e, hor⟩ := (hm4 o).1 ho
              rcases hor with ⟨y, hy, rfl⟩ | ⟨y, hy, rfl, _⟩
              · have := (HGT.out.each z hz).q.2 y (by rw [e]; simp [hy]); omega
              · have := (HGT.out.each z hz).has.2 y hy; omega)
            rwa [List.length_map] at h3
          have HNX := Lib.hid hnx
          have HNE := Lib.hid (fun o (ho : o ∈ xs) => isFor_ne HGT.out ((hm4 o).1 ho))
          have HS4 := Lib.hid hs4.up1
          have hst0 : Still t h s (fun o => o ∈ xs ∧ o ∉ xs.take 0) := .inr ⟨HWM.out, fun o ho => ⟨(hm4 o).2 ho, by simp⟩⟩
          have HST0 := Lib.hid hst0
          clear hnx hr4 hm4 hs4 hst0 HFR HWT
          go_loopg [12] nx (fun gg s12 wr => ∃ (j : Nat) (t' : Tab), j ≤ nx ∧ nx - j ≤ gg ∧ s12 = .int .i64 j ∧ Aside (Good t') ∧ Aside (AllIn t' S6) ∧ Aside (Still t' h s (fun o => o ∈ xs ∧ o ∉ xs.take j)) ∧ Aside (Sep w wr [tabRes b t', rowRes 3 1 (.slice p4 nx q4) nx (intCells xs)]))
          case atStart => exact ⟨0, t, Nat.zero_le _, by omega, rfl, HGT.out, HAT.out, HST0.out, HS4.out⟩
          case round =>
            clear HGT HAT HSW HST0 HS4 HWM
            obtain ⟨j, t, hj, hgg2, rfl, HG, HA, HSTI, HS⟩ := hrel
            have hgt : Good t := HG
            have hat : AllIn t S6 := HA
            have hsw : Sep w wr [tabRes b t, rowRes 3 1 (.slice p4 nx q4) nx (intCells xs)] := HS
            by_cases hlt2 : j < nx
            · have hltz2 : (j : Int) < (nx : Int) := by omega
              obtain ⟨o, ho⟩ : ∃ o, xs[j]? = some o := ⟨xs[j]'(by rw [← HNX.out]; exact hlt2), List.getElem?_eq_getElem _⟩
              have hlx : 0 < (intCells xs).length := by unfold intCells; rw [List.length_map, ← HNX.out]; omega
              obtain ⟨g4, rfl⟩ := (hsw.up1).rowAt hlx
              have r4 := ((hsw.up1).rowCell (j := j) (u := .int .i64 o) (by unfold intCells; rw [List.getElem?_map, ho]; rfl)).1
              have hc := release_any hgt HT.out o hsw
              have HC := Lib.hid hc
              have HNG := Lib.hid (relM_good hgt o)
              have HNA : Hid (AllIn (relM t o).2 S6) := Lib.hid (fun z hz => by
                have := allIn_rel hgt hat o z hz
                exact ⟨fun y hy => (this.1 y hy).1, fun y hy => (this.2 y hy).1⟩)
              have HNS : Hid (Still (relM t o).2 h s (fun a => a ∈ xs ∧ a ∉ xs.take (j + 1))) := by
                refine Lib.hid ?_
                have h1 := still_rel hgt (HNE.out o (List.mem_of_getElem? ho)) (show Still t h s (fun o => o ∈ xs ∧ o ∉ xs.take j) from HSTI)
                rcases h1 with a | ⟨a1, a2⟩
                · exact .inl a
                · refine .inr ⟨a1, fun a ha => ?_⟩
                  obtain ⟨⟨b1, b2⟩, b3⟩ := a2 a ha
                  refine ⟨b1, ?_⟩
                  rw [List.take_add_one, ho]
                  simp only [Option.toList_some, List.mem_append, List.mem_singleton, not_or]
                  exact ⟨b2, b3⟩
              clear hc hgt hat hsw ho hlx HSTI HG HA HS
              go_wp2_with fail
              refine HC.out.mono ?_
              rintro e w5 ⟨p5, q5, rfl, hs5⟩
              have HS5 := Lib.hid hs5.tail
              clear hs5
              go_wp2_with fail
              go_roundg (nx - (j + 1))
              case measure => omega
              case rel => exact ⟨j + 1, _, by omega, by omega, by go_num, HNG.out, HNA.out, HNS.out, HS5.out⟩
            · have hltz2 : ¬ (j : Int) < (nx : Int) := by omega
              obtain ⟨wi, rfl⟩ : ∃ wi, wi = wr := ⟨_, rfl⟩
              obtain ⟨hw0, hm0⟩ : waitsM t h = none ∧ 0 < modeM t h s := by
                rcases (show Still t h s (fun o => o ∈ xs ∧ o ∉ xs.take j) from HSTI) with a | ⟨a1, a2⟩
                · exact a
                · exfalso
                  obtain ⟨o, ho⟩ := waits_some hgt a1
                  obtain ⟨b1, b2⟩ := a2 o ho
                  rw [List.take_of_length_le (by rw [← HNX.out]; omega)] at b2
                  exact b2 b1
              have hwt := waits_any hgt h hsw
              rw [hw0] at hwt
              have hmd := mode_any hgt h s hsw
              obtain ⟨md, hmd2⟩ : ∃ md, md = modeM t h s := ⟨_, rfl⟩
              rw [← hmd2] at hmd hm0
              have HWT := Lib.hid hwt
              have HMD := Lib.hid hmd
              have HGT := Lib.hid hgt
              have HAT := Lib.hid hat
              have HSW := Lib.hid hsw
              have hmd3 : md = 1 ∨ md = 2 := by
                rw [hmd2] at hm0 ⊢
                unfold modeM at hm0 ⊢
                cases eg : getT t s with
                | none => rw [eg] at hm0; simp at hm0
                | some z =>
                  rw [eg] at hm0
                  rcases modeL_cases ((HGT.out.each z (getT_some HGT.out eg).2.1).has) h with ⟨a, _⟩ | ⟨a, _⟩
                  · simp only at hm0; omega
                  · exact a
              clear hwt hmd hmd2 hw0 hgt hat hsw HSTI HG HA HS hm0
              rcases hmd3 with rfl | rfl
              all_goals
                go_wp2_with (first | (go_at_call 18; refine HWT.out.mono ?_; rintro e w6 ⟨rfl, rfl⟩; simp only [Option.getD_none, Option.isSome_none]) | (go_at_call 20; refine HMD.out.mono ?_; rintro e w6 ⟨rfl, rfl⟩))
                go_loopg [15] 6 (fun gg s15 wr => ∃ (k : Nat) (t : Tab), k ≤ 6 ∧ 6 - k ≤ gg ∧ s15 = .int .i64 ((k : Int) + 1) ∧ Aside (Good t) ∧ Aside (AllIn t (fun a => (k : Int) < a ∧ a ≤ 6)) ∧ Aside (Sep w wr (tabRes b t :: [rowRes 3 1 (.slice p4 nx q4) nx (intCells xs)])))
                case atStart => exact ⟨0, t, Nat.zero_le _, by omega, rfl, HGT.out, (fun z hz => ⟨fun y hy => by have := (HAT.out z hz).1 y hy; unfold S6 at this; exact ⟨by show (0 : Int) < y.1; omega, this.2⟩, fun y hy => by have := (HAT.out z hz).2 y hy; unfold S6 at this; exact ⟨by show (0 : Int) < y.1; omega, this.2⟩⟩ : AllIn t (fun a => ((0 : Nat) : Int) < a ∧ a ≤ 6)), HSW.out⟩
                case round =>
                  clear HGT HAT HSW
                  obtain ⟨k, t, hk, hgg3, rfl, HG, HA, HS⟩ := hrel
                  have hgt : Good t := HG
                  have hat : AllIn t (fun a => (k : Int) < a ∧ a ≤ 6) := HA
                  have hsw : Sep w wr (tabRes b t :: [rowRes 3 1 (.slice p4 nx q4) nx (intCells xs)]) := HS
                  by_cases hlt3 : k < 6
                  · have hlz : ((k : Int) + 1) ≤ 6 := by omega
                    have HC := Lib.hid (release_any hgt HT.out ((k : Int) + 1) hsw)
                    have HNG := Lib.hid (relM_good hgt ((k : Int) + 1))
                    have HNA : Hid (AllIn (relM t ((k : Int) + 1)).2 (fun a => ((k + 1 : Nat) : Int) < a ∧ a ≤ 6)) := Lib.hid (fun z hz => by
                      have h0 := allIn_rel hgt hat ((k : Int) + 1) z hz
                      exact ⟨fun y hy => by have := h0.1 y hy; exact ⟨by omega, this.1.2⟩, fun y hy => by have := h0.2 y hy; exact ⟨by omega, this.1.2⟩⟩)
                    clear hgt hat hsw HG HA HS
                    go_wp2_with fail
                    refine HC.out.mono ?_
                    rintro e w7 ⟨p7, q7, rfl, hs7⟩
                    have HS7 := Lib.hid hs7.tail
                    clear hs7
                    go_wp2_with fail
                    go_roundg (6 - (k + 1))
                    case measure => omega
                    case rel => exact ⟨k + 1, _, by omega, by omega, by go_num, HNG.out, HNA.out, HS7.out⟩
                  · have hk6 : k = 6 := by omega
                    subst hk6
                    have ht0 : t = [] := allIn_none hgt (fun z hz => ⟨fun y hy => by have := (hat z hz).1 y hy; simp at this; omega, fun y hy => by have := (hat z hz).2 y hy; simp at this; omega⟩)
                    subst ht0
                    have HC := Lib.hid (things_any good_nil hsw)
                    clear hgt hat hsw HG HA HS
                    go_wp2_with fail
                    refine HC.out.mono ?_
                    rintro e w7 ⟨p7, q7, rfl, hs7⟩
                    have HO7 := Lib.hid hs7.old
                    clear hs7
                    go_wp2_with fail
                    refine (wakes_any w7 (HT.out.only HO7.out)).mono ?_
                    rintro e w8 ⟨rfl, ho8⟩
                    have HO8 := Lib.hid (HO7.out.trans ho8 (Within.nil _ _))
                    clear ho8
                    go_wp2_with fail
                    go_ret
                    exact ⟨rfl, HO8.out⟩

set_option maxRecDepth 100000 in
theorem lifted (os : Os) (started : os.Started) (H : Type) (enc : TypeId × Value → H) :
    ReturnsInHanded {} Tryd.checked os 5 .any (fun w args => (Rows.lockEndsSpec.pre enc Tryd.prog Tryd.f5 Rows.lockEndsRow.domain false w args ∧ laidMetH Tryd.prog Rows.lockEndsRow.laid w) ∧ sizedMet enc Tryd.prog Tryd.f5 (OpenSpec.ofChange Rows.lockEndsSpec) false w args)
      (Rows.lockEndsSpec.post enc Tryd.prog Tryd.f5 false true false false) := by
  refine returnsInHanded_of_change_and (C := Tryd.checked) (X := fun w _ => laidMetH Tryd.prog Rows.lockEndsRow.laid w) (fun _ _ _ hh h => h.of_heap hh) own started (by kernel_rfl) Tryd.func5
    (ChangeSpec.witness_shaped (enc := enc) (C := Tryd.checked) (os := os) (X := fun w _ => laidMetH Tryd.prog Rows.lockEndsRow.laid w) false (World.laidAll Tryd.prog os Rows.lockEndsRow.laid) #[.slice none 0 0, .int .i64 0] 8 (World.laidAll_os _ _ _)
      (World.shaped_of_ZipB (by kernel_rfl) (by kernel_rfl)) (by kernel_rfl) (by kernel_rfl) (by kernel_rfl)
      (by rw [MakeChecks.laidMetH_plain _ _ _ (by kernel_rfl)]; exact laidMet_laidAll _ (by kernel_rfl) (by kernel_rfl))) ?_
  intro W base args ds gs before hval0 hW _ _ hL _
  have htog : Tog W := tog_of_laid hL
  have hval : ∀ (j : Nat) t v, Tryd.f5.params[j]? = some t → args[j]? = some v → Value.okWide Tryd.prog W .any base t v := hval0
  have hW' := hW
  obtain ⟨pp, pq, hA0, hV, rfl, hfz, hnd⟩ := hW
  have hA : DataW.TrodAll enc Tryd.prog W 0 (fun _ => true) true Tryd.f5.params.toList args.toList ds pp := hA0
  rw [Tryd.params5] at hA hval
  obtain ⟨v0, vs0, d0, ds0, p0, q0, hargs, rfl, rfl, h0, r0⟩ := trodAll_cons hA
  obtain ⟨v1, vs1, d1, ds1, p1, q1, rfl, rfl, rfl, h1, r1⟩ := trodAll_cons r0
  obtain ⟨rfl, rfl, rfl⟩ := trodAll_nil r1
  obtain rfl : args = #[v0, v1] := by cases args; simp_all
  obtain ⟨rfl, rfl⟩ := trodVars_none hV
  obtain ⟨sp0, sl0, sq0, rfl, hl0, hst0⟩ := open_steps (W := W) (v := v0) (by
    obtain ⟨a, len, cap, rfl⟩ := okWide_slice Tryd.underlying22 (hval 0 22 v0 rfl rfl)
    exact ⟨a, len, cap, rfl⟩) h0
  obtain ⟨a1, rfl, rfl, rfl, w1⟩ := open_int Tryd.underlying3 (hval 1 3 v1 rfl rfl) h1
  clear hA0 hval0
  simp only [List.append_nil] at hW'
  refine (walk sp0 sl0 sq0 a1 W hl0 hst0 (bounds_i64 w1) htog).mono fun e W' ⟨he, hg⟩ => ?_
  subst he
  have hb : Below W.heap.size W W' := hg.below (Nat.le_refl _) (by simp)
  have hargs := (trodAll_cons_mk (Below.trod laidOut (by kernel_rfl) (of_decide_eq_true (by kernel_rfl)) h0 hb (fun x hx => hW'.lt x (by simp [hx]))) (trodAll_cons_mk (shut_int Tryd.underlying3 w1) trodAll_mk0))
  simp only [List.append_nil] at hargs
  exact ⟨_, rfl, _, _, _, [], _, [], hW', trodAll_cons_mk (shut_bool Tryd.underlying4 _) trodAll_mk0, hargs, rfl, hb.frame _, fun h => by cases h⟩

theorem over : Rows.LockEndsSaid :=
  OpenClaim.holds_of_wide 5 Tryd.f5 rfl rfl rfl rfl rfl rfl rfl ⟨rfl, rfl, rfl, rfl, rfl⟩ rfl rfl rfl rfl rfl (by kernel_rfl) Tryd.func5 (by kernel_rfl)
    (of_decide_eq_true (by kernel_rfl)) (by unfold Func.isWrapper; first | (rw [if_pos (by decide +kernel)]; kernel_rfl) | (rw [if_neg (by decide +kernel)]; exact ⟨rfl, rfl⟩))
    (fun os started H enc _ => lifted os started H enc)

theorem proved : Rows.LockEndsCardSaid :=
  Claim7.holds_tied_plain_at .later [] [.data] true Rows.lockEndsCard.stood.harness false over (fun _ h => by cases h) (by kernel_rfl) (fun _ h => by cases h) lockEnds_row_tie rfl ⟨rfl, rfl⟩ (by kernel_rfl) rfl
    (fun f fn hf hfn => by
      obtain rfl : f = 5 := Option.some.inj ((show Tryd.prog.funcNamed "hedgerow/hedgerowlaw12.LockEnds" = some 5 by kernel_rfl).symm.trans hf) |>.symm
      obtain rfl : fn = Tryd.f5 := (Option.some.inj (Tryd.func5.symm.trans hfn)).symm
      exact ⟨by kernel_rfl, fun j t ht => by
        rw [Tryd.params5] at ht
        have hm : t ∈ [22, 3] := by simpa using Array.mem_of_getElem? ht
        have hall : ([22, 3].all fun u => !Tryd.prog.wantsStandIn u) = true := by kernel_rfl
        exact (show Tryd.prog.wantsStandIn t = false by simpa using List.all_eq_true.1 hall t hm)⟩)
    (by kernel_rfl)
#print axioms proved
end Go.Proofs.YtipfjjcokajjjaaDoor.lockEnds
