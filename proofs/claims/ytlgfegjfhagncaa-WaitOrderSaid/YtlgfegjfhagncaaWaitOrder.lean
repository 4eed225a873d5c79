/-
  What is proved here: the statement WaitOrder.
  No condition.
-/
import Derived.Test.YtlgfegjfhagncaaWaitW
import Derived.ProofKit
import Derived.OpenShut
import Derived.HandedShaped
set_option linter.unusedSimpArgs false
set_option linter.unusedVariables false
namespace Go.Proofs.Ytlgfegjfhagncaa.waitOrder
open Go.RowKit Go.ChangeShapes Go.WideShapes Go.Deep Go.Proofs.Ytlgfegjfhagncaa

theorem edgeCells_set {l : Edges} {j : Nat} {x e : Int × Int} (h : l[j]? = some x) : ((edgeCells l).set (j * 2) (.int .i64 e.1)).set (j * 2 + 1) (.int .i64 e.2) = edgeCells (l.set j e) := by
  induction l generalizing j with
  | nil => simp at h
  | cons y l ih =>
    cases j with
    | zero => rfl
    | succ j =>
      have := ih (j := j) (by simpa using h)
      rw [edgeCells_cons, List.set_cons_succ, edgeCells_cons, ← this, show (j + 1) * 2 = j * 2 + 1 + 1 by omega]
      rfl

/-- The same edges, in another order, some of them more than once. -/
def Alike (l O : Edges) : Prop := ∀ e, e ∈ l ↔ e ∈ O
theorem Alike.swap {l O : Edges} (h : Alike l O) {x y : Nat} {ex ey : Int × Int} (hx : O[x]? = some ex) (hy : O[y]? = some ey) : Alike l ((O.set x ey).set y ex) := by
  obtain ⟨h1, rfl⟩ := List.getElem?_eq_some_iff.1 hx
  obtain ⟨h2, rfl⟩ := List.getElem?_eq_some_iff.1 hy
  intro e
  rw [h e, (List.set_set_perm h1 h2).mem_iff]
theorem Alike.more {l O : Edges} (h : Alike l O) {x : Nat} {ex : Int × Int} (hx : O[x]? = some ex) : Alike l (O ++ [ex]) := by
  intro e
  rw [h e, List.mem_append, List.mem_singleton]
  constructor
  · exact .inl
  · rintro (q | rfl)
    · exact q
    · exact List.mem_of_getElem? hx
theorem Alike.ok {l O : Edges} (h : Alike l O) (k : EdgesOk l) : EdgesOk O := fun e he => k e ((h e).2 he)

theorem ints_same {W : World} {pa pb : Option Addr} {L : List Int} (qa qb : Nat) (hA : IntsAt W pa L) (hB : IntsAt W pb L) (hl : L.length ≤ 100000) :
    Calls Try.prog 11 #[.slice pa L.length qa, .slice pb L.length qb] W fun r W' => r = .returned (.bool true) ∧ Only [] W W' :=
  (ints_any qa qb hA hB hl hl).mono (by rintro r w ⟨rfl, ho⟩; exact ⟨by simp, ho⟩)

set_option maxRecDepth 100000 in
set_option maxHeartbeats 8000000 in
theorem walk (sp : Option Addr) (l : Edges) (sq : Nat) (tp : Option Addr) (turn : List Int) (tq : Nat) (a : Int) (W : World) (hl : ((l.length : Nat) : Int) ≤ 9223372036854775807) (hst : EdgesOk l ∧ EdgesAt W sp l)
    (htl : ((turn.length : Nat) : Int) ≤ 9223372036854775807) (hti : (∀ y ∈ turn, inI64 y) ∧ IntsAt W tp turn) (_ha : -9223372036854775808 ≤ a ∧ a ≤ 9223372036854775807) :
    Calls Try.prog 5 #[.slice sp l.length sq, .slice tp turn.length tq, .int .i64 a] W fun e w' => e = .returned (.bool true) ∧ Only [] W w' := by
  have HOK := Lib.hid hst.1
  have HE := Lib.hid hst.2
  have HTI := Lib.hid hti
  obtain ⟨it, IT⟩ := info_of Try.infoEdge
  clear hst hti
  by_cases h60 : 60 < l.length
  · go_enter Try.func5, Try.ntmps5
    go_wp2_with fail
    refine (wakes_any _).mono ?_
    rintro r w1 ⟨rfl, ho⟩
    have HO := Lib.hid ho; clear ho
    go_wp2_with fail
    go_ret
    exact ⟨rfl, HO.out⟩
  · have h60' : l.length ≤ 60 := by omega
    go_enter Try.func5, Try.ntmps5
    go_wp2_with fail
    refine (few_row sq HE.out (by omega)).mono ?_
    rintro r w1 ⟨p1, q1, rfl, hs1⟩
    have HS1 := Lib.hid hs1
    clear hs1
    go_wp2_with fail
    go_loopw [7, 8] (fun s7 s8 wx => ∃ (i n : Nat) (O : Edges) (pk : Option Addr) (qk : Nat), i ≤ turn.length ∧ i ≤ 201 ∧ s8 = .int .i64 i ∧ s7 = .slice pk n qk ∧ O.length = n ∧ n ≤ 100 ∧ Alike l O ∧ Sep W wx [rowRes 33 2 (.slice pk n qk) n (edgeCells O)]) (fun _ s8 _ => turn.length - (intOf s8).toNat)
    case atStart => exact ⟨0, _, l, p1, q1, Nat.zero_le _, Nat.zero_le _, rfl, rfl, rfl, by omega, fun _ => Iff.rfl, HS1.out⟩
    case round =>
      obtain ⟨i, n, O, pk, qk, hi, hi2, rfl, rfl, hOn, hn, hal, hs⟩ := hrel
      have HT := Lib.hid hs
      have HAL := Lib.hid hal
      have HOL := Lib.hid hOn
      clear hs hal hOn HS1
      go_upto_region 5 with fail
      go_cut [30] (fun s30 wx => (∃ c : Bool, s30 = .bool c ∧ (c = true → i + 1 < turn.length ∧ 0 < n ∧ i < 200)) ∧ wr = wx)
      case first =>
        go_wp2_with fail
        all_goals
          go_meet
          first
            | exact ⟨⟨false, rfl, fun h => (by cases h)⟩, rfl⟩
            | exact ⟨⟨true, rfl, fun _ => ⟨by omega, by omega, by omega⟩⟩, rfl⟩
            | exact ⟨⟨_, rfl, fun h => by simp only [Bool.and_eq_true, decide_eq_true_eq] at h; omega⟩, rfl⟩
      case rest =>
        obtain ⟨⟨c, rfl, hc⟩, rfl⟩ := hcut
        cases c with
        | true => as_aux_lemma =>
          obtain ⟨g1, g2, g3⟩ := hc rfl
          clear hc
          obtain ⟨ti, hti⟩ : ∃ x, turn[i]? = some x := ⟨_, List.getElem?_eq_getElem (by omega)⟩
          obtain ⟨tj, htj⟩ : ∃ x, turn[i + 1]? = some x := ⟨_, List.getElem?_eq_getElem g1⟩
          obtain ⟨bt, ot, rfl, _, t0⟩ := (HTI.out.2.only HT.out.old) i ti hti
          obtain ⟨bt', ot', et, _, t1⟩ := (HTI.out.2.only HT.out.old) (i + 1) tj htj
          simp only [Option.some.injEq, Addr.mk.injEq, and_true] at et
          obtain ⟨rfl, rfl⟩ := et
          have bi := HTI.out.1 ti (List.mem_of_getElem? hti)
          have bj := HTI.out.1 tj (List.mem_of_getElem? htj)
          clear hti htj
          obtain ⟨bi1, bi2⟩ := bi
          obtain ⟨bj1, bj2⟩ := bj
          have n1 : (1 : Int) ≤ (n : Int) := by omega
          have n2 : (n : Int) ≤ 1000000 := by omega
          have hw1 : ((i : Int) + 1).toNat = i + 1 := by omega
          go_wp2_with fail
          go_quiet ((go_at_call 17; refine Calls.quiet_of_same ((mod_any _ _ _ n1 n2 (by assumption) (by assumption)).mono fun e w' h => ⟨h.1, h.2.symm⟩)))
          have mx1 := Int.emod_nonneg ti (show (n : Int) ≠ 0 by omega)
          have mx2 := Int.emod_lt_of_pos ti (show (0 : Int) < n by omega)
          have my1 := Int.emod_nonneg tj (show (n : Int) ≠ 0 by omega)
          have my2 := Int.emod_lt_of_pos tj (show (0 : Int) < n by omega)
          clear t0 t1 bi1 bi2 bj1 bj2
          generalize ti % (n : Int) = X at mx1 mx2 ⊢
          generalize tj % (n : Int) = Y at my1 my2 ⊢
          obtain ⟨x, rfl⟩ : ∃ x : Nat, X = (x : Int) := ⟨X.toNat, by omega⟩
          obtain ⟨y, rfl⟩ : ∃ y : Nat, Y = (y : Int) := ⟨Y.toNat, by omega⟩
          have hxn : x < n := by omega
          have hyn : y < n := by omega
          clear mx1 mx2 my1 my2
          have HV := Lib.hid (HT.out.only (Only.drewN [] wr nq))
          clear HT
          generalize wr.drewN nq = V at HV ⊢
          obtain ⟨ex, hex⟩ : ∃ e, O[x]? = some e := ⟨_, List.getElem?_eq_getElem (by have := HOL.out; omega)⟩
          obtain ⟨ey, hey⟩ : ∃ e, O[y]? = some e := ⟨_, List.getElem?_eq_getElem (by have := HOL.out; omega)⟩
          obtain ⟨g, rfl⟩ := HV.out.rowAt (by rw [edgeCells_length, HOL.out]; omega)
          obtain ⟨x0, zx0⟩ := HV.out.rowCell (edgeCells_get hex).1
          obtain ⟨x1, zx1⟩ := HV.out.rowCell (edgeCells_get hex).2
          obtain ⟨y0, zy0⟩ := HV.out.rowCell (edgeCells_get hey).1
          obtain ⟨y1, zy1⟩ := HV.out.rowCell (edgeCells_get hey).2
          have hey2 : ∃ e, (O.set x ey)[y]? = some e := ⟨_, List.getElem?_eq_getElem (by rw [List.length_set, HOL.out]; exact hyn)⟩
          have HSW : Hid (∀ V' : World, V' = V.drew → Sep W ((((V'.setCell ⟨g, x * 2, none⟩ (.int .i64 ey.1)).setCell ⟨g, x * 2 + 1, none⟩ (.int .i64 ey.2)).setCell ⟨g, y * 2, none⟩ (.int .i64 ex.1)).setCell ⟨g, y * 2 + 1, none⟩ (.int .i64 ex.2)) [rowRes 33 2 (.slice (some ⟨g, 0, none⟩) n qk) n (edgeCells ((O.set x ey).set y ex))]) := by
            rintro V' rfl
            have h := (((HV.out.drew.rowStore (x * 2) (.int .i64 ey.1)).rowStore (x * 2 + 1) (.int .i64 ey.2)).rowStore (y * 2) (.int .i64 ex.1)).rowStore (y * 2 + 1) (.int .i64 ex.2)
            obtain ⟨e2, he2⟩ := hey2
            rw [edgeCells_set hex, edgeCells_set he2] at h
            exact h
          have hcl : (edgeCells O).length = n * 2 := by rw [edgeCells_length, HOL.out]
          obtain ⟨q0, hq0⟩ : ∃ u, ((edgeCells O).set (x * 2) (.int .i64 ey.1))[y * 2]? = some u := ⟨_, List.getElem?_eq_getElem (by rw [List.length_set]; omega)⟩
          obtain ⟨q1, hq1⟩ : ∃ u, ((edgeCells O).set (x * 2 + 1) (.int .i64 ey.2))[y * 2 + 1]? = some u := ⟨_, List.getElem?_eq_getElem (by rw [List.length_set]; omega)⟩
          obtain ⟨q2, hq2⟩ : ∃ u, (((edgeCells O).set (x * 2) (.int .i64 ey.1)).set (x * 2 + 1) (.int .i64 ey.2))[y * 2 + 1]? = some u := ⟨_, List.getElem?_eq_getElem (by rw [List.length_set, List.length_set]; omega)⟩
          obtain ⟨w2', zw2⟩ := ((HV.out.rowStore (x * 2) (.int .i64 ey.1)).rowStore (x * 2 + 1) (.int .i64 ey.2)).rowCell hq2
          obtain ⟨w0, zw0⟩ := (HV.out.rowStore (x * 2) (.int .i64 ey.1)).rowCell hq0
          obtain ⟨w1', zw1⟩ := (HV.out.rowStore (x * 2 + 1) (.int .i64 ey.2)).rowCell hq1
          have HAL2 := Lib.hid (HAL.out.swap hex hey)
          have hex2 : ∃ e2, ((O.set x ey).set y ex)[x]? = some e2 := ⟨_, List.getElem?_eq_getElem (by rw [List.length_set, List.length_set, HOL.out]; exact hxn)⟩
          have HOL2 : Hid (((O.set x ey).set y ex).length = n) := by show _ = _; rw [List.length_set, List.length_set]; exact HOL.out
          have hxi : (x : Int) < (n : Int) := by omega
          have hyi : (y : Int) < (n : Int) := by omega
          have HEX2 := Lib.hid hex2
          clear hex hey hq0 hq1 hq2 hcl hex2 hey2
          go_wp2_with fail
          go_cut [] (fun wx => Sep W wx [rowRes 33 2 (.slice (some ⟨g, 0, none⟩) n qk) n (edgeCells ((O.set x ey).set y ex))])
          case first =>
            go_region
            all_goals
              go_wp2_with fail
              go_meet
              exact HSW.out _ rfl
          case rest =>
            have HS3 := Lib.hid hcut
            clear hcut x0 zx0 x1 zx1 y0 zy0 y1 zy1 w2' zw2 w0 zw0 w1' zw1 HSW HV HAL HOL
            obtain ⟨O2, hO2⟩ : ∃ O2, O2 = (O.set x ey).set y ex := ⟨_, rfl⟩
            rw [← hO2] at HS3 HAL2 HEX2 HOL2
            clear hO2
            go_upto_region 9 with fail
            go_cut [69] (fun s69 wx => (∃ c : Bool, s69 = .bool c ∧ (c = true → n < 100)) ∧ wc = wx)
            case first =>
              go_wp2_with fail
              all_goals
                go_meet
                first
                  | exact ⟨⟨false, rfl, fun h => (by cases h)⟩, rfl⟩
                  | exact ⟨⟨true, rfl, fun _ => by omega⟩, rfl⟩
                  | exact ⟨⟨_, rfl, fun h => by simp only [Bool.and_eq_true, decide_eq_true_eq] at h; omega⟩, rfl⟩
            case rest =>
              obtain ⟨⟨c, rfl, hc⟩, hww⟩ := hcut
              subst hww
              cases c with
              | true =>
                have hn2 := hc rfl
                clear hc
                obtain ⟨⟨u, v⟩, hu⟩ := HEX2.out
                obtain ⟨z0, _⟩ := HS3.out.rowCell (edgeCells_get hu).1
                obtain ⟨z1, _⟩ := HS3.out.rowCell (edgeCells_get hu).2
                have HAL3 := Lib.hid (HAL2.out.more hu)
                have HOL3 : Hid ((O2 ++ [(u, v)]).length = n + 1) := by show _ = _; rw [List.length_append, HOL2.out]; rfl
                have HAP : Hid (edgeCells (O2 ++ [(u, v)]) = edgeCells O2 ++ [.int .i64 u, .int .i64 v]) := by show _ = _; rw [edgeCells_append]; rfl
                simp only at z0 z1
                have HS4 := Lib.hid (HS3.out.forget (.cells #[.int .i64 u, .int .i64 v] 33))
                clear hu HEX2 HAL2
                go_wp2_with (at_builtin; go_must (refine wpList_append_sep (w := W) (e := 33) (cs := #[.int .i64 u, .int .i64 v]) rfl (.tmp 70) (.tmp 75) 22 rfl it _ 2 16 Try.underlying22 IT.out rfl (by decide) _ n (edgeCells O2) rfl rfl (by simp) rfl ?hone HS3.out (by unfold maxLen; omega) (by omega) ?_))
                case hone => simp [Value.oneCell']
                intro p4 q4 w4 hs4
                have HS5 : Hid (Sep W w4 [rowRes 33 2 (.slice p4 (n + 1) q4) (n + 1) (edgeCells (O2 ++ [(u, v)]))]) := by show Sep _ _ _; rw [HAP.out]; exact hs4
                clear hs4
                go_wp2_with fail
                go_roundw
                case rel => exact ⟨i + 2, n + 1, O2 ++ [(u, v)], p4, q4, by omega, by omega, by go_num, rfl, HOL3.out, by omega, HAL3.out, HS5.out⟩
                case measure => simp [intOf]; omega
              | false =>
                clear hc
                go_wp2_with fail
                go_roundw
                case rel => exact ⟨i + 2, n, O2, _, qk, by omega, by omega, by go_num, rfl, HOL2.out, by omega, HAL2.out, HS3.out⟩
                case measure => simp [intOf]; omega
        | false => as_aux_lemma =>
          clear hc
          have HOKO := Lib.hid (HAL.out.ok HOK.out)
          have hlO : O.length ≤ 100 := by rw [HOL.out]; exact hn
          have HEO := Lib.hid HT.out.edgesAt
          have HO0 := Lib.hid HT.out.old
          have hnO : n = O.length := HOL.out.symm
          subst hnO
          clear HT HTI HOL
          go_wp2_with fail
          refine (few_any sq (HE.out.only HO0.out) (by omega)).mono ?_
          rintro r w2 ⟨p2, q2, rfl, he2, ho2⟩
          have HE2 := Lib.hid he2
          have HO2 := Lib.hid (HO0.out.trans ho2 (Within.nil _ _))
          have HEO2 := Lib.hid (HEO.out.only ho2)
          clear he2 ho2 HEO HO0
          go_wp2_with fail
          refine (reachl_any q2 HE2.out HOK.out (by omega) a).mono ?_
          rintro r w3 ⟨xs, p3, q3, rfl, hr, hi3, ho3⟩
          have hxl := hr.le
          have HR := Lib.hid hr
          have HI3 := Lib.hid hi3
          have HO3 := Lib.hid (HO2.out.trans ho3 (Within.nil _ _))
          have HEO3 := Lib.hid (HEO2.out.only ho3)
          clear hr hi3 ho3 HO2 HEO2 HE2
          go_wp2_with fail
          refine (few_any qk HEO3.out (by omega)).mono ?_
          rintro r w4 ⟨p4, q4, rfl, he4, ho4⟩
          have HE4 := Lib.hid he4
          have HI4 := Lib.hid (HI3.out.only ho4)
          have HO4 := Lib.hid (HO3.out.trans ho4 (Within.nil _ _))
          have HEO4 := Lib.hid (HEO3.out.only ho4)
          clear he4 ho4 HO3 HEO3 HI3
          go_wp2_with fail
          refine (reachl_any q4 HE4.out HOKO.out (by omega) a).mono ?_
          rintro r w5 ⟨ys, p5, q5, rfl, hr5, hi5, ho5⟩
          obtain rfl := HR.out.ext HAL.out hr5
          have HI5 := Lib.hid hi5
          have HI6 := Lib.hid (HI4.out.only ho5)
          have HO5 := Lib.hid (HO4.out.trans ho5 (Within.nil _ _))
          have HEO5 := Lib.hid (HEO4.out.only ho5)
          clear hr5 hi5 ho5 HO4 HEO4 HI4 HR HE4
          go_wp2_with fail
          refine (ints_same q3 q5 HI6.out HI5.out (by omega)).mono ?_
          rintro r w6 ⟨rfl, ho6⟩
          have HO6 := Lib.hid (HO5.out.trans ho6 (Within.nil _ _))
          have HEO6 := Lib.hid (HEO5.out.only ho6)
          clear ho6 HO5 HEO5 HI5 HI6
          go_wp2_with fail
          refine (few_any sq (HE.out.only HO6.out) (by omega)).mono ?_
          rintro r w7 ⟨p7, q7, rfl, he7, ho7⟩
          have HE7 := Lib.hid he7
          have HO7 := Lib.hid (HO6.out.trans ho7 (Within.nil _ _))
          have HEO7 := Lib.hid (HEO6.out.only ho7)
          clear he7 ho7 HO6 HEO6
          go_wp2_with fail
          refine (circlel_any q7 HE7.out HOK.out (by omega)).mono ?_
          rintro r w8 ⟨cs, p8, q8, rfl, hr, hi8, ho8⟩
          have hcl := hr.le
          have HR := Lib.hid hr
          have HI8 := Lib.hid hi8
          have HO8 := Lib.hid (HO7.out.trans ho8 (Within.nil _ _))
          have HEO8 := Lib.hid (HEO7.out.only ho8)
          clear hr hi8 ho8 HO7 HEO7 HE7
          go_wp2_with fail
          refine (few_any qk HEO8.out (by omega)).mono ?_
          rintro r w9 ⟨p9, q9, rfl, he9, ho9⟩
          have HE9 := Lib.hid he9
          have HI9 := Lib.hid (HI8.out.only ho9)
          have HO9 := Lib.hid (HO8.out.trans ho9 (Within.nil _ _))
          clear he9 ho9 HO8 HEO8 HI8
          go_wp2_with fail
          refine (circlel_any q9 HE9.out HOKO.out (by omega)).mono ?_
          rintro r w10 ⟨ds, p10, q10, rfl, hr10, hi10, ho10⟩
          obtain rfl := HR.out.ext HAL.out hr10
          have HI10 := Lib.hid hi10
          have HI11 := Lib.hid (HI9.out.only ho10)
          have HO10 := Lib.hid (HO9.out.trans ho10 (Within.nil _ _))
          clear hr10 hi10 ho10 HO9 HI9 HR HE9
          go_wp2_with fail
          refine (ints_same q8 q10 HI11.out HI10.out (by omega)).mono ?_
          rintro r w11 ⟨rfl, ho11⟩
          have HO11 := Lib.hid (HO10.out.trans ho11 (Within.nil _ _))
          clear ho11 HO10 HI10 HI11
          go_wp2_with fail
          refine (wakes_any _).mono ?_
          rintro r w12 ⟨rfl, ho12⟩
          have HO12 := Lib.hid (HO11.out.trans ho12 (Within.nil _ _))
          clear ho12 HO11
          go_wp2_with fail
          go_ret
          exact ⟨rfl, HO12.out⟩

theorem own : ownKnob Try.prog.godebug = none := by kernel_rfl
theorem laidOut : laidOutB Try.prog = true := by kernel_rfl

set_option maxRecDepth 100000 in
theorem lifted (os : Os) (started : os.Started) (H : Type) (enc : TypeId × Value → H) :
    ReturnsInHanded {} Try.checked os 5 .any (Rows.waitOrderSpec.pre6 enc Try.prog Try.f5 Rows.waitOrderRow.domain false) (Rows.waitOrderSpec.post enc Try.prog Try.f5 false true false false) := by
  refine returnsInHanded_of_change (C := Try.checked) own started (by kernel_rfl) Try.func5
    (ChangeSpec.witness6 (enc := enc) (C := Try.checked) false ⟨#[], #[.slice none 0 0, .slice none 0 0, .int .i64 0], []⟩ 8 (by kernel_rfl) (by kernel_rfl) (by kernel_rfl) (by kernel_rfl)) ?_
  intro W base args ds gs before hval0 hW hcnd _
  have hval : ∀ (j : Nat) t v, Try.f5.params[j]? = some t → args[j]? = some v → Value.okWide Try.prog W .any base t v := hval0
  have hW' := hW
  obtain ⟨pp, pq, hA0, hV, rfl, hfz, hnd⟩ := hW
  have hA : DataW.TrodAll enc Try.prog W 0 (fun _ => true) true Try.f5.params.toList args.toList ds pp := hA0
  rw [Try.params5] at hA hval
  obtain ⟨v0, vs0, d0, ds0, p0, q0, hargs, rfl, rfl, h0, r0⟩ := trodAll_cons hA
  obtain ⟨v1, vs1, d1, ds1, p1, q1, rfl, rfl, rfl, h1, r1⟩ := trodAll_cons r0
  obtain ⟨v2, vs2, d2, ds2, p2, q2, rfl, rfl, rfl, h2, r2⟩ := trodAll_cons r1
  obtain ⟨rfl, rfl, rfl⟩ := trodAll_nil r2
  obtain rfl : args = #[v0, v1, v2] := by cases args; simp_all
  obtain ⟨rfl, rfl⟩ := trodVars_none hV
  obtain ⟨sp0, sl0, sq0, rfl, hl0, hst0⟩ := open_edges (W := W) (v := v0) (by
    obtain ⟨a, len, cap, rfl⟩ := okWide_slice Try.underlying22 (hval 0 22 v0 rfl rfl)
    exact ⟨a, len, cap, rfl⟩) h0
  obtain ⟨sp1, sl1, sq1, rfl, hl1, hst1⟩ := open_intss (W := W) (v := v1) (by
    obtain ⟨a, len, cap, rfl⟩ := okWide_slice Try.underlying28 (hval 1 28 v1 rfl rfl)
    exact ⟨a, len, cap, rfl⟩) h1
  obtain ⟨a2, rfl, rfl, rfl, w2⟩ := open_int Try.underlying3 (hval 2 3 v2 rfl rfl) h2
  clear hA0 hval0
  simp only [List.append_nil] at hW'
  refine (walk sp0 sl0 sq0 sp1 sl1 sq1 a2 W hl0 hst0 hl1 hst1 (bounds_i64 w2)).mono fun e W' ⟨he, hg⟩ => ?_
  subst he
  have hb : Below W.heap.size W W' := hg.below (Nat.le_refl _) (by simp)
  have hargs := (trodAll_cons_mk (Below.trod laidOut (by kernel_rfl) (of_decide_eq_true (by kernel_rfl)) h0 hb (fun x hx => hW'.lt x (by simp [hx]))) (trodAll_cons_mk (Below.trod laidOut (by kernel_rfl) (of_decide_eq_true (by kernel_rfl)) h1 hb (fun x hx => hW'.lt x (by simp [hx]))) (trodAll_cons_mk (shut_int Try.underlying3 w2) trodAll_mk0)))
  simp only [List.append_nil] at hargs
  exact ⟨_, rfl, _, _, _, [], _, [], hW', trodAll_cons_mk (shut_bool Try.underlying4 _) trodAll_mk0, hargs, rfl, hb.frame _, fun h => by cases h⟩

theorem over : Rows.waitOrderRow.holds Try.pinned (OpenSpec.ofChange Rows.waitOrderSpec) :=
  OpenClaim.holds_of_wide 5 Try.f5 rfl rfl rfl rfl rfl rfl rfl ⟨rfl, rfl, rfl, rfl, rfl⟩ rfl rfl rfl rfl rfl (by kernel_rfl) Try.func5 (by kernel_rfl)
    (of_decide_eq_true (by kernel_rfl)) (by unfold Func.isWrapper; first | (rw [if_pos (by decide +kernel)]; kernel_rfl) | (rw [if_neg (by decide +kernel)]; exact ⟨rfl, rfl⟩))
    (fun os started H enc _ => lifted os started H enc)

theorem proved : Rows.WaitOrderSaid := over
#print axioms proved
end Go.Proofs.Ytlgfegjfhagncaa.waitOrder
