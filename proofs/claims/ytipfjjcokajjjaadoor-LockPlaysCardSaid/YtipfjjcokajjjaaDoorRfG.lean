/-
  What is proved here: the document's Take of a thing that is there, where the holder waits (printed by wip/tools/ref12.py).
  No condition: each lemma names its own.
-/
import Derived.Test.YtipfjjcokajjjaaDoorRfF
import Derived.Deep.DeepCutAuto
import Derived.Deep.RegionHeld3
set_option linter.unusedVariables false
set_option linter.unusedSimpArgs false
namespace Go.Proofs.YtipfjjcokajjjaaDoor
open Go.RowKit

theorem step_append_srcR {P : Program} {w W : World} {l : List Res} {e : TypeId} {ops : Array Oper} {o : Oper} {a : Act} {K : Act → World → Prop} {Q : Exit → Act → World → Prop} {E : Prop} (hgd : o.guard = none) (s x : Operand) (t : TypeId)
    (ho : o.op = .call { callee := .builtin .append, args := #[s, x], argTypes := #[t, t] })
    (i : TypeInfo) (z : Value) (size bytes : Nat) (ht : P.underlying t = some (.slice e)) (hi : P.info? e = some i ∧ i.zero = some z ∧ i.size = size ∧ i.bytes = bytes) (hzs : z.cells.size = size) (hsz : 0 < size)
    (v : Value) (n : Nat) (xs : List Value) (hs : a.eval s = v)
    (p : Option Addr) (m c : Nat) (news : List Value) (hx : a.eval x = .slice p m c) (hl : news.length = m * size) (hnews : ∀ j u, news[j]? = some u → ∃ b o, p = some ⟨b, o, none⟩ ∧ W.cell? ⟨b, o + j, none⟩ = some u) (h1 : ∀ u ∈ news, u.oneCell' = true)
    (hsep : Sep w W (rowRes e size v n xs :: l))
    (h63 : n + m ≤ maxLen) (hbytes : (n + m) * bytes ≤ 140737488355328)
    (h : ∀ p' q w', Sep w w' (rowRes e size (.slice p' (n + m) q) (n + m) (xs ++ news) :: l) → K (a.put o.dst (.slice p' (n + m) q)) w') :
    if Region.wanted o (yielded ops a.tmps) = true then Oper.wp P o a W K Q else E := by
  have hw : Region.wanted o (yielded ops a.tmps) = true := by simp [Region.wanted, hgd]
  rw [if_pos hw]
  obtain ⟨p', q, w', hr, h2, h3, h4⟩ := run_append_src (P := P) W t o.type e i z size bytes ht hi.1 hi.2.1 hi.2.2.1 hi.2.2.2 hzs hsz v n xs hsep.row p m c news hl hnews h1 h63 hbytes
  unfold Oper.wp execOp
  simp only [ho, resolve, invoke, builtin, Sem.run_bind, Sem.run_pure, Result.andThen_ok, List.map_toArray, List.map_cons, List.map_nil, hs, hx, hr]
  refine h p' q w' (hsep.turn ?_)
  rintro F ⟨_, rfl⟩
  exact ⟨_, ⟨h2, rfl⟩, h3, h4⟩

theorem ref_q {w W : World} {b g : Nat} {L : List Res} {n q : Nat} {tv : RTP} (hs : Sep w W (openR b (some ⟨g, 0, none⟩) n q tv L)) {k : Nat} {x : Th} {vh vq : Value} (hk : tv[k]? = some (x, vh, vq)) : W.cell? ⟨g, k * 3 + 2, none⟩ = some vq ∧ W.frozen? ⟨g, k * 3 + 2, none⟩ = false := by
  obtain ⟨_, e, ⟨_, _, c⟩, ⟨_, _, f⟩⟩ := ref_cells hs hk
  cases e
  exact ⟨c, f⟩
theorem ref_h {w W : World} {b g : Nat} {L : List Res} {n q : Nat} {tv : RTP} (hs : Sep w W (openR b (some ⟨g, 0, none⟩) n q tv L)) {k : Nat} {x : Th} {vh vq : Value} (hk : tv[k]? = some (x, vh, vq)) : W.cell? ⟨g, k * 3 + 1, none⟩ = some vh := by
  obtain ⟨_, e, ⟨_, c, _⟩, _⟩ := ref_cells hs hk
  cases e
  exact c
theorem HeldAt.cells {W : World} {g o n c : Nat} {l : HM} (h : HeldAt W (.slice (some ⟨g, o, none⟩) n c) l) : ∀ (j : Nat) (u : Value), (wCells l)[j]? = some u → W.cell? ⟨g, o + j, none⟩ = some u := by
  rcases h with ⟨a, _⟩ | ⟨g', o', c', a, _, _, _, h⟩
  · cases a
  · simp only [Value.slice.injEq, Option.some.injEq, Addr.mk.injEq] at a
    obtain ⟨⟨rfl, rfl, _⟩, _⟩ := a
    exact h
theorem held_take {W : World} {g o n c : Nat} {l : HM} (h : HeldAt W (.slice (some ⟨g, o, none⟩) n c) l) (a : Nat) : ∀ j u, (wCells (l.take a))[j]? = some u → ∃ b' o', (some ⟨g, o, none⟩ : Option Addr) = some ⟨b', o', none⟩ ∧ W.cell? ⟨b', o' + j, none⟩ = some u := by
  intro j u hu
  rw [← wCells_take, List.getElem?_take] at hu
  split at hu
  · exact ⟨g, o, rfl, h.cells j u hu⟩
  · cases hu
theorem held_drop {W : World} {g o n c : Nat} {l : HM} (h : HeldAt W (.slice (some ⟨g, o, none⟩) n c) l) (a : Nat) (ha : a ≤ l.length) : ∀ j u, (wCells (l.drop a))[j]? = some u → ∃ b' o', (some ⟨g, o + a * 2, none⟩ : Option Addr) = some ⟨b', o', none⟩ ∧ W.cell? ⟨b', o' + j, none⟩ = some u := by
  intro j u hu
  rw [← wCells_drop, List.getElem?_drop] at hu
  refine ⟨g, o + a * 2, rfl, ?_⟩
  rw [Nat.add_assoc]
  exact h.cells _ u hu
theorem no_wcells {W : World} {p : Option Addr} : ∀ j u, (wCells [])[j]? = some u → ∃ b o, p = some (⟨b, o, none⟩ : Addr) ∧ W.cell? ⟨b, o + j, none⟩ = some u := by
  intro j u hu; simp [wCells] at hu
theorem wCells_one' (l : HM) : ∀ u ∈ wCells l, u.oneCell' = true := by
  intro u hu
  unfold wCells at hu
  simp only [List.mem_flatMap] at hu
  obtain ⟨x, _, hx⟩ := hu
  simp only [List.mem_cons, List.not_mem_nil, or_false] at hx
  rcases hx with rfl | rfl <;> rfl
theorem ent_one12 (h want : Int) : ∀ u ∈ (#[Value.int .i64 h, .int .i64 want] : Array Value).toList, u.oneCell' = true := by intro u hu; simp at hu; rcases hu with h | h <;> subst h <;> rfl
theorem wCells_ins (l : HM) (a : Nat) (h want : Int) : wCells (l.take a) ++ (#[Value.int .i64 h, .int .i64 want] : Array Value).toList ++ wCells (l.drop a) = wCells (insL l a (h, want)) := by
  unfold insL
  rw [wCells_app, List.append_assoc]
  rfl
theorem upAt_is {x : Th} {i : Nat} (hi : i ≤ x.q.length) (h1 : ∀ j, j < i → ∀ y, x.q[j]? = some y → 0 < modeL x.has y.1) (h2 : ∀ y, x.q[i]? = some y → ¬ 0 < modeL x.has y.1) : upAt x = i := by
  unfold upAt
  generalize x.q = q at *
  induction q generalizing i with
  | nil => simp at hi; subst hi; rfl
  | cons y q ih =>
    cases i with
    | zero => rw [List.takeWhile_cons_of_neg (by simpa using h2 y rfl)]; rfl
    | succ i =>
      rw [List.takeWhile_cons_of_pos (by simpa using h1 0 (by omega) y rfl), List.length_cons]
      rw [ih (i := i) (by simpa using hi) (fun j hj z hz => h1 (j + 1) (by omega) z (by simpa using hz)) (fun z hz => h2 z (by simpa using hz))]

set_option maxRecDepth 100000 in
set_option maxHeartbeats 40000000 in
theorem rtw_s {w W : World} {L : List Res} {b g N q k : Nat} {a g2 o2 NQ cq : Nat} {ta tb : RTP} {x : Th} {vh : Value} {n : ByteArray} {h want md : Int} {fr : Bool} {t' : Tab} {nm : ByteArray}
    (a1 : ¬ h < 1) (a2 : ¬ 1000 < h) (a3 : ¬ (64 : Int) < (n.size : Int)) (a4 : ¬ want < 1) (a5 : ¬ 2 < want)
    (HW : Hid (Calls Tryd.prog 19 #[.pointer (some ⟨b, 0, none⟩), .int .i64 h] W fun e W' => e = .returned (.tuple #[.string ⟨#[]⟩, .bool false]) ∧ W = W'))
    (HM : Hid (Calls Tryd.prog 21 #[.pointer (some ⟨b, 0, none⟩), .int .i64 h, .string n] W fun e W' => e = .returned (.int .i64 md) ∧ W = W'))
    (HF : Hid (Calls Tryd.prog 32 #[.pointer (some ⟨b, 0, none⟩), .string n] W fun e W' => e = .returned (.int .i64 (k : Nat)) ∧ W = W'))
    (HFR : Hid (Calls Tryd.prog 33 #[.agg #[.string nm, vh, .slice (some ⟨g2, o2, none⟩) NQ cq], .int .i64 h, .int .i64 want] W fun e W' => e = .returned (.bool fr) ∧ Only [] W W'))
    (HNM : Hid (nm = x.name)) (hm : ¬ want ≤ md) (hfr : fr = false ∨ (fr = true ∧ md ≤ 0 ∧ NQ ≠ 0)) (HS : Hid (Sep w W (openR b (some ⟨g, 0, none⟩) N q (ta ++ (x, vh, .slice (some ⟨g2, o2, none⟩) NQ cq) :: tb) L))) (HYK : Hid ((ta ++ (x, vh, .slice (some ⟨g2, o2, none⟩) NQ cq) :: tb)[k]? = some (x, vh, .slice (some ⟨g2, o2, none⟩) NQ cq))) (hkN : k < N) (hlN : N ≤ 256)
    (HLQ : Hid (x.q.length = NQ)) (hnm : NQ ≤ 1001) (HLH : Hid (x.has.length ≤ 1001)) (HA : Hid (a = if 0 < md then upAt x else NQ)) (haq : a < cq) (hnq : NQ ≤ cq) (han : a ≤ NQ)
    (HEND : Hid (∀ (V : World) (p6 : Option Addr) (q6 m : Nat) (xs : List Value), m = NQ + 1 → xs = wCells (insL x.q a (h, want)) → Sep w V (rowRes 76 2 (.slice p6 m q6) m xs :: openR b (some ⟨g, 0, none⟩) N q (ta ++ (x, vh, .slice (some ⟨g2, o2, none⟩) NQ cq) :: tb) L) → Sep w (V.setCell ⟨g, k * 3 + 2, none⟩ (.slice p6 m q6)) (refRes b t' :: L))) :
    Calls Tryd.prog 14 #[.pointer (some ⟨b, 0, none⟩), .int .i64 h, .string n, .int .i64 want] W fun e W' => e = .returned (.int .i64 120) ∧ Sep w W' (refRes b t' :: L) := by
  obtain ⟨ie, IE⟩ := info_of Tryd.infoHeld
  obtain ⟨_, e0, ⟨c0, c1, c2⟩, _⟩ := ref_cells HS.out HYK.out
  cases e0
  have b0 := (ref_tab HS.out).1
  rw [← HNM.out] at c0
  have HOO := Lib.hid (Only.refl [] W)
  have mixed : Tryd.prog.follows .mixedOrders = true := by kernel_rfl
  go_enter Tryd.func14, Tryd.ntmps14
  go_upto_region 18 with (first | (go_at_call 19; refine HW.out.mono ?_; rintro e w2 ⟨rfl, rfl⟩) | (go_at_call 21; refine HM.out.mono ?_; rintro e w2 ⟨rfl, rfl⟩) | (go_at_call 32; refine HF.out.mono ?_; rintro e w2 ⟨rfl, rfl⟩))
  go_cut [125] (fun s125 wx => s125 = .bool false ∧ Aside (Only [] W wx))
  case first =>
    rcases hfr with rfl | ⟨rfl, hmd, hn0⟩
    · by_cases hmd : 0 < md
      · go_wp2_with (go_at_call 33; refine HFR.out.mono ?_; rintro e w2 ⟨rfl, ho2⟩; have HO2 := Lib.hid ho2; clear ho2)
        go_meet
        exact ⟨rfl, HO2.out⟩
      · go_wp2_with (go_at_call 33; refine HFR.out.mono ?_; rintro e w2 ⟨rfl, ho2⟩; have HO2 := Lib.hid ho2; have HS2 := Lib.hid (HS.out.only ho2); have d2 := (ref_q HS2.out HYK.out).1; clear ho2)
        go_meet
        exact ⟨rfl, HO2.out⟩
    · have hmd' : ¬ 0 < md := by omega
      go_wp2_with (go_at_call 33; refine HFR.out.mono ?_; rintro e w2 ⟨rfl, ho2⟩; have HO2 := Lib.hid ho2; have HS2 := Lib.hid (HS.out.only ho2); have d2 := (ref_q HS2.out HYK.out).1; clear ho2)
      go_meet
      refine ⟨?_, HO2.out⟩
      first | rfl | (exfalso; omega) | (simp only [Value.bool.injEq, Bool.or_eq_false_iff, decide_eq_false_iff_not, beq_eq_false_iff_ne, ne_eq]; constructor <;> omega)
  case rest =>
  obtain ⟨rfl, HO2⟩ := hcut
  have HO2 : Hid (Only [] W wc) := HO2
  have HS2 := Lib.hid (HS.out.only HO2.out)
  clear HW HM HF HFR hfr c0 c1 c2 HO2 HOO
  obtain ⟨W2, hW2⟩ : ∃ V : World, V = wc := ⟨_, rfl⟩
  rw [← hW2] at HS2 ⊢
  clear hW2
  have d2 := (ref_q HS2.out HYK.out).1
  have d1 := ref_h HS2.out HYK.out
  go_upto_if 146 with fail
  go_cut [14] (fun s14 wx => s14 = .int .i64 (a : Nat) ∧ Aside (Only [] W2 wx))
  case first =>
    by_cases hmd : 0 < md
    · have HA2 : Hid (upAt x = a) := by have := HA.out; rw [if_pos hmd] at this; exact this.symm
      go_wp2_with fail
      go_loopw [14] (fun s14 wr => ∃ i : Nat, i ≤ NQ ∧ s14 = .int .i64 i ∧ Aside (Only [] W2 wr) ∧ Aside (∀ j, j < i → ∀ y, x.q[j]? = some y → 0 < modeL x.has y.1)) (fun s14 _ => NQ - (intOf s14).toNat)
      case atStart => exact ⟨0, Nat.zero_le _, rfl, Only.refl _ _, (fun j hj => absurd hj (by omega) : ∀ j, j < 0 → ∀ y, x.q[j]? = some y → 0 < modeL x.has y.1)⟩
      case round =>
        obtain ⟨i, hi, rfl, HO3, HB⟩ := hrel
        have HO3 : Hid (Only [] W2 wr) := HO3
        have HB : Hid (∀ j, j < i → ∀ y, x.q[j]? = some y → 0 < modeL x.has y.1) := HB
        have HS3 := Lib.hid (HS2.out.only HO3.out)
        clear d1 d2
        have d2 := (ref_q HS3.out HYK.out).1
        have d1 := ref_h HS3.out HYK.out
        obtain ⟨W3, hW3⟩ : ∃ V : World, V = wr := ⟨_, rfl⟩
        rw [← hW3] at HS3 HO3 d1 d2 ⊢
        clear hW3
        by_cases hlt : i < NQ
        · have hltb : decide ((i : Int) < (NQ : Int)) = true := by simpa using hlt
          obtain ⟨y, hy⟩ : ∃ y, x.q[i]? = some y := ⟨x.q[i]'(by rw [HLQ.out]; exact hlt), List.getElem?_eq_getElem _⟩
          obtain ⟨hy1, _⟩ := wCells_at hy
          have r0 := (ref_held HS3.out HYK.out).2.cells _ _ hy1
          have HMO : Hid (∀ n, Calls Tryd.prog 35 #[vh, .int .i64 y.1] (W3.drewN n) fun e W' => e = .returned (.int .i64 (modeL x.has y.1)) ∧ W3.drewN n = W') := fun n => rmode_any _ ((ref_held HS3.out HYK.out).1.only (Only.drewN [] _ _)) (by have := HLH.out; omega) _
          by_cases hp : 0 < modeL x.has y.1
          · have HB2 : Hid (∀ j, j < i + 1 → ∀ y, x.q[j]? = some y → 0 < modeL x.has y.1) := by
              intro j hj z hz
              rcases Nat.lt_or_ge j i with q1 | q1
              · exact HB.out j q1 z hz
              · have : j = i := by omega
                subst this; rw [hy] at hz; cases hz; exact hp
            obtain ⟨mo, hmo⟩ : ∃ m, m = modeL x.has y.1 := ⟨_, rfl⟩
            rw [← hmo] at hp HMO
            obtain ⟨y1, y2⟩ := y
            simp only at r0 HMO
            clear hy hy1 hmo HB
            go_upto_region 24 with fail
            go_quiet ((go_at_call 35; refine Calls.quiet_of_same ((HMO.out _).mono fun e w' h => ⟨h.1, h.2.symm⟩)))
            have HO4 := Lib.hid (HO3.out.trans (Only.drewN [] W3 nq) (Within.nil _ _))
            generalize W3.drewN nq = W4 at *
            clear HMO HS3 HO3 d1 d2 r0
            go_wp2_with fail
            go_roundw
            case rel => exact ⟨i + 1, by omega, by go_num, HO4.out, HB2.out⟩
            case measure => simp [intOf]; omega
          · have HI : Hid (i = a) := by
              rw [← HA2.out]
              refine (upAt_is (by rw [HLQ.out]; omega) HB.out ?_).symm
              intro z hz; rw [hy] at hz; cases hz; exact hp
            obtain ⟨mo, hmo⟩ : ∃ m, m = modeL x.has y.1 := ⟨_, rfl⟩
            rw [← hmo] at hp HMO
            obtain ⟨y1, y2⟩ := y
            simp only at r0 HMO
            clear hy hy1 hmo HB
            go_upto_region 24 with fail
            go_quiet ((go_at_call 35; refine Calls.quiet_of_same ((HMO.out _).mono fun e w' h => ⟨h.1, h.2.symm⟩)))
            have HO4 := Lib.hid (HO3.out.trans (Only.drewN [] W3 nq) (Within.nil _ _))
            generalize W3.drewN nq = W4 at *
            clear HMO HS3 HO3 d1 d2 r0
            go_wp2_with fail
            go_meet
            exact ⟨by rw [HI.out], HO4.out⟩
        · have hltb : decide ((i : Int) < (NQ : Int)) = false := by simpa using hlt
          have HI : Hid (i = a) := by
            rw [← HA2.out]
            refine (upAt_is (by rw [HLQ.out]; omega) HB.out ?_).symm
            intro z hz
            have := (List.getElem?_eq_some_iff.1 hz).1
            rw [HLQ.out] at this; omega
          clear HB
          go_upto_region 24 with fail
          go_quiet (fail)
          have HO4 := Lib.hid (HO3.out.trans (Only.drewN [] W3 nq) (Within.nil _ _))
          generalize W3.drewN nq = W4 at *
          clear HS3 HO3 d1 d2
          go_wp2_with fail
          go_meet
          exact ⟨by rw [HI.out], HO4.out⟩
    · have HA2 : Hid (NQ = a) := by have := HA.out; rw [if_neg hmd] at this; exact this.symm
      go_wp2_with fail
      go_meet
      exact ⟨by rw [HA2.out], Only.refl _ _⟩
  case rest =>
  obtain ⟨rfl, HO3⟩ := hcut
  have HO3 : Hid (Only [] W2 wc) := HO3
  have HS := Lib.hid (HS2.out.only HO3.out)
  clear HS2 HO3 d1 d2 HA hm HLH mixed
  have mixed : Tryd.prog.follows .mixedOrders = true := by kernel_rfl
  obtain ⟨W, hW⟩ : ∃ V : World, V = wc := ⟨_, rfl⟩
  rw [← hW] at HS ⊢
  clear hW
  have c2 := (ref_q HS.out HYK.out).1
  have HM0 : Hid (Sep w (W.alloc (.cells #[] 76)).drew (rowRes 76 2 (.slice (some ⟨W.heap.size, 0, none⟩) 0 0) (0) ([]) :: openR b (some ⟨g, 0, none⟩) N q (ta ++ (x, vh, .slice (some ⟨g2, o2, none⟩) NQ cq) :: tb) L)) := (HS.out.row_made 76 2).drew
  have HM01 : Hid (Sep w ((W.alloc (.cells #[] 76)).alloc (.cells #[.int .i64 h, .int .i64 want] 76)).drew (rowRes 76 2 (.slice (some ⟨W.heap.size, 0, none⟩) 0 0) (0) ([]) :: blkRes (W.heap.size + 1) (.cells #[.int .i64 h, .int .i64 want] 76 (0, 0)) :: openR b (some ⟨g, 0, none⟩) N q (ta ++ (x, vh, .slice (some ⟨g2, o2, none⟩) NQ cq) :: tb) L)) := by
    have hz := ((HS.out.row_made 76 2).alloc #[.int .i64 h, .int .i64 want] 76).up1.drew
    rw [show (W.alloc (.cells #[] 76)).heap.size = W.heap.size + 1 from by simp] at hz
    exact hz
  have HM10 : Hid (Sep w ((W.alloc (.cells #[.int .i64 h, .int .i64 want] 76)).alloc (.cells #[] 76)).drew (rowRes 76 2 (.slice (some ⟨W.heap.size + 1, 0, none⟩) 0 0) (0) ([]) :: blkRes W.heap.size (.cells #[.int .i64 h, .int .i64 want] 76 (0, 0)) :: openR b (some ⟨g, 0, none⟩) N q (ta ++ (x, vh, .slice (some ⟨g2, o2, none⟩) NQ cq) :: tb) L)) := by
    have hz := ((HS.out.alloc #[.int .i64 h, .int .i64 want] 76).row_made 76 2).drew
    rw [show (W.alloc (.cells #[.int .i64 h, .int .i64 want] 76)).heap.size = W.heap.size + 1 from by simp] at hz
    exact hz
  have ka0 : (W.alloc (.cells #[] 76)).cell? ⟨g, k * 3 + 2, none⟩ = some (.slice (some ⟨g2, o2, none⟩) NQ cq) := Lib.cell?_alloc_some _ c2
  have ka1 : (W.alloc (.cells #[.int .i64 h, .int .i64 want] 76)).cell? ⟨g, k * 3 + 2, none⟩ = some (.slice (some ⟨g2, o2, none⟩) NQ cq) := Lib.cell?_alloc_some _ c2
  have ka01 : ((W.alloc (.cells #[] 76)).alloc (.cells #[.int .i64 h, .int .i64 want] 76)).cell? ⟨g, k * 3 + 2, none⟩ = some (.slice (some ⟨g2, o2, none⟩) NQ cq) := Lib.cell?_alloc_some _ ka0
  have ka10 : ((W.alloc (.cells #[.int .i64 h, .int .i64 want] 76)).alloc (.cells #[] 76)).cell? ⟨g, k * 3 + 2, none⟩ = some (.slice (some ⟨g2, o2, none⟩) NQ cq) := Lib.cell?_alloc_some _ ka1
  have SHM0 := Lib.hid (held_take (ref_held HM0.out.tail HYK.out).2 a)
  have SHM01 := Lib.hid (held_take (ref_held HM01.out.tail.tail HYK.out).2 a)
  have SHM10 := Lib.hid (held_take (ref_held HM10.out.tail.tail HYK.out).2 a)
  have HT1 := Lib.hid (wCells_one' (x.q.take a))
  have HD1 := Lib.hid (wCells_one' (x.q.drop a))
  have hqi : ¬ (cq = a) := by omega
  have hiq2 : a ≤ cq := by omega
  have HAQ : Hid (a ≤ x.q.length) := by have := HLQ.out; show a ≤ x.q.length; omega
  go_upto_region 26 with fail
  go_cut [] (fun wx => Sep w wx (refRes b t' :: L))
  case first =>
    go_wp2_with fail
    refine wp_region_last (S := (fun w' => w'.cell? ⟨g, k * 3 + 2, none⟩ = some (.slice (some ⟨g2, o2, none⟩) NQ cq))) (by kernel_rfl) 23 _ rfl rfl rfl (by kernel_rfl) [22, 21, 20, 19, 18, 17, 16, 15, 14, 13, 12, 11, 10, 9, 8, 7, 6, 5, 4, 3, 2, 1, 0] (by kernel_rfl) (by kernel_rfl) ?_ (fun hHeld => ?_)
    · (try dsimp only); (first | go_keep | assumption)
    simp only [lull, List.setIfInBounds_toArray, List.set_cons_succ, List.set_cons_zero]
    refine wpAnyH_take (i := 0) (v := ?_) rfl (by kernel_rfl) (by kernel_rfl) (by kernel_rfl) (fun _ _ _ h => h) (Or.inl ⟨by rfl, ?_⟩) (by assumption) ?_
    rotate_left
    · (intro w hSw; (try dsimp only at hSw); go_simp; try with_reducible rfl)
    (try simp only [Act.put, List.setIfInBounds_toArray, List.set_cons_zero, List.set_cons_succ])
    refine wpAnyH_take (i := 2) (v := ?_) rfl (by kernel_rfl) (by kernel_rfl) (by kernel_rfl) (fun _ _ _ h => h) (Or.inl ⟨by rfl, ?_⟩) (by assumption) ?_
    rotate_left
    · (intro w hSw; (try dsimp only at hSw); go_simp; try with_reducible rfl)
    (try simp only [Act.put, List.setIfInBounds_toArray, List.set_cons_zero, List.set_cons_succ])
    refine wpAnyH_take (i := 3) (v := ?_) rfl (by kernel_rfl) (by kernel_rfl) (by kernel_rfl) (fun _ _ _ h => h) (Or.inl ⟨by rfl, ?_⟩) (by assumption) ?_
    rotate_left
    · (intro w hSw; (try dsimp only at hSw); go_simp; try with_reducible rfl)
    (try simp only [Act.put, List.setIfInBounds_toArray, List.set_cons_zero, List.set_cons_succ])
    refine wpAnyH_take (i := 4) (v := ?_) rfl (by kernel_rfl) (by kernel_rfl) (by kernel_rfl) (fun _ _ _ h => h) (Or.inl ⟨by rfl, ?_⟩) (by assumption) ?_
    rotate_left
    · (intro w hSw; (try dsimp only at hSw); go_simp; try with_reducible rfl)
    (try simp only [Act.put, List.setIfInBounds_toArray, List.set_cons_zero, List.set_cons_succ])
    refine wpAnyH_take (i := 5) (v := ?_) rfl (by kernel_rfl) (by kernel_rfl) (by kernel_rfl) (fun _ _ _ h => h) (Or.inl ⟨by rfl, ?_⟩) (by assumption) ?_
    rotate_left
    · (intro w hSw; (try dsimp only at hSw); go_simp; try with_reducible rfl)
    (try simp only [Act.put, List.setIfInBounds_toArray, List.set_cons_zero, List.set_cons_succ])
    refine wpAnyH_take (i := 6) (v := ?_) rfl (by kernel_rfl) (by kernel_rfl) (by kernel_rfl) (fun _ _ _ h => h) (Or.inl ⟨by rfl, ?_⟩) (by assumption) ?_
    rotate_left
    · (intro w hSw; (try dsimp only at hSw); go_simp; try with_reducible rfl)
    (try simp only [Act.put, List.setIfInBounds_toArray, List.set_cons_zero, List.set_cons_succ])
    refine wpAnyH_take (i := 7) (v := ?_) rfl (by kernel_rfl) (by kernel_rfl) (by kernel_rfl) (fun _ _ _ h => h) (Or.inl ⟨by rfl, ?_⟩) (by assumption) ?_
    rotate_left
    · (intro w hSw; (try dsimp only at hSw); go_simp; try with_reducible rfl)
    (try simp only [Act.put, List.setIfInBounds_toArray, List.set_cons_zero, List.set_cons_succ])
    refine wpAnyH_take (i := 9) (v := ?_) rfl (by kernel_rfl) (by kernel_rfl) (by kernel_rfl) (fun _ _ _ h => h) (Or.inl ⟨by rfl, ?_⟩) (by assumption) ?_
    rotate_left
    · (intro w hSw; (try dsimp only at hSw); go_simp; try with_reducible rfl)
    (try simp only [Act.put, List.setIfInBounds_toArray, List.set_cons_zero, List.set_cons_succ])
    refine wpAnyH_take (i := 10) (v := ?_) rfl (by kernel_rfl) (by kernel_rfl) (by kernel_rfl) (fun _ _ _ h => h) (Or.inl ⟨by rfl, ?_⟩) (by assumption) ?_
    rotate_left
    · (intro w hSw; (try dsimp only at hSw); go_simp; try with_reducible rfl)
    (try simp only [Act.put, List.setIfInBounds_toArray, List.set_cons_zero, List.set_cons_succ])
    refine wpAnyH_take (i := 11) (v := ?_) rfl (by kernel_rfl) (by kernel_rfl) (by kernel_rfl) (fun _ _ _ h => h) (Or.inl ⟨by rfl, ?_⟩) (by assumption) ?_
    rotate_left
    · (intro w hSw; (try dsimp only at hSw); go_simp; try with_reducible rfl)
    (try simp only [Act.put, List.setIfInBounds_toArray, List.set_cons_zero, List.set_cons_succ])
    refine wpAnyH_take (i := 14) (v := ?_) rfl (by kernel_rfl) (by kernel_rfl) (by kernel_rfl) (fun _ _ _ h => h) (Or.inl ⟨by rfl, ?_⟩) (by assumption) ?_
    rotate_left
    · (intro w hSw; (try dsimp only at hSw); go_simp; try with_reducible rfl)
    (try simp only [Act.put, List.setIfInBounds_toArray, List.set_cons_zero, List.set_cons_succ])
    refine wpAnyH_take (i := 15) (v := ?_) rfl (by kernel_rfl) (by kernel_rfl) (by kernel_rfl) (fun _ _ _ h => h) (Or.inl ⟨by rfl, ?_⟩) (by assumption) ?_
    rotate_left
    · (intro w hSw; (try dsimp only at hSw); go_simp; try with_reducible rfl)
    (try simp only [Act.put, List.setIfInBounds_toArray, List.set_cons_zero, List.set_cons_succ])
    refine wpAnyH_take (i := 16) (v := ?_) rfl (by kernel_rfl) (by kernel_rfl) (by kernel_rfl) (fun _ _ _ h => h) (Or.inl ⟨by rfl, ?_⟩) (by assumption) ?_
    rotate_left
    · (intro w hSw; (try dsimp only at hSw); go_simp; try with_reducible rfl)
    (try simp only [Act.put, List.setIfInBounds_toArray, List.set_cons_zero, List.set_cons_succ])
    refine wpAnyH_take (i := 17) (v := ?_) rfl (by kernel_rfl) (by kernel_rfl) (by kernel_rfl) (fun _ _ _ h => h) (Or.inl ⟨by rfl, ?_⟩) (by assumption) ?_
    rotate_left
    · (intro w hSw; (try dsimp only at hSw); go_simp; try with_reducible rfl)
    (try simp only [Act.put, List.setIfInBounds_toArray, List.set_cons_zero, List.set_cons_succ])
    refine wpAnyH_take (i := 18) (v := ?_) rfl (by kernel_rfl) (by kernel_rfl) (by kernel_rfl) (fun _ _ _ h => h) (Or.inl ⟨by rfl, ?_⟩) (by assumption) ?_
    rotate_left
    · (intro w hSw; (try dsimp only at hSw); go_simp; try with_reducible rfl)
    (try simp only [Act.put, List.setIfInBounds_toArray, List.set_cons_zero, List.set_cons_succ])
    refine wpAnyH_take (i := 19) (v := ?_) rfl (by kernel_rfl) (by kernel_rfl) (by kernel_rfl) (fun _ _ _ h => h) (Or.inl ⟨by rfl, ?_⟩) (by assumption) ?_
    rotate_left
    · (intro w hSw; (try dsimp only at hSw); go_simp; try with_reducible rfl)
    (try simp only [Act.put, List.setIfInBounds_toArray, List.set_cons_zero, List.set_cons_succ])
    refine wpAnyH_ready (rs := [1, 12]) (by kernel_rfl) (by simp) ?_
    refine AllReadyH.cons rfl (fun K hK => ?_) ?_
    · go_simp
      refine hK.out _ _ ?_ (fun hH1 => ?_)
      · (try dsimp only); (first | go_keep | assumption)
      clear hK K hHeld
      (try simp only [Act.put, List.setIfInBounds_toArray, List.set_cons_zero, List.set_cons_succ])
      refine wpAnyH_ready (rs := [8, 12]) (by kernel_rfl) (by simp) ?_
      refine AllReadyH.cons rfl (fun K hK => ?_) ?_
      · first | (refine step_append_srcR (w := w) (e := 76) rfl (.tmp 173) (.tmp 179) 69 rfl ie _ 2 16 Tryd.underlying69 IE.out rfl (by decide) (.slice (some ⟨W.heap.size, 0, none⟩) 0 0) 0 [] rfl (some ⟨g2, o2, none⟩) a cq (wCells (x.q.take a)) rfl (by rw [wCells_len, List.length_take, HLQ.out]; omega) SHM0.out HT1.out HM0.out (by unfold maxLen; omega) (by omega) ?_; intro p4 q4 w4 hs4; rw [Nat.zero_add, List.nil_append] at hs4; rw [Nat.zero_add]; have HS4 := Lib.hid hs4; clear hs4; have kn4 := (ref_q HS4.out.tail HYK.out).1; have kn5 : (w4.alloc (.cells #[.int .i64 h, .int .i64 want] 76)).cell? ⟨g, k * 3 + 2, none⟩ = some (.slice (some ⟨g2, o2, none⟩) NQ cq) := Lib.cell?_alloc_some _ kn4) | (refine step_append_srcR (w := w) (e := 76) rfl (.tmp 173) (.tmp 179) 69 rfl ie _ 2 16 Tryd.underlying69 IE.out rfl (by decide) (.slice (some ⟨W.heap.size, 0, none⟩) 0 0) 0 [] rfl (some ⟨g2, o2, none⟩) a cq (wCells (x.q.take a)) rfl (by rw [wCells_len, List.length_take, HLQ.out]; omega) SHM01.out HT1.out HM01.out (by unfold maxLen; omega) (by omega) ?_; intro p4 q4 w4 hs4; rw [Nat.zero_add, List.nil_append] at hs4; rw [Nat.zero_add]; have HS4 := Lib.hid hs4; clear hs4; have kn4 := (ref_q HS4.out.tail.tail HYK.out).1) | (refine step_append_srcR (w := w) (e := 76) rfl (.tmp 173) (.tmp 179) 69 rfl ie _ 2 16 Tryd.underlying69 IE.out rfl (by decide) (.slice (some ⟨W.heap.size + 1, 0, none⟩) 0 0) 0 [] rfl (some ⟨g2, o2, none⟩) a cq (wCells (x.q.take a)) rfl (by rw [wCells_len, List.length_take, HLQ.out]; omega) SHM10.out HT1.out HM10.out (by unfold maxLen; omega) (by omega) ?_; intro p4 q4 w4 hs4; rw [Nat.zero_add, List.nil_append] at hs4; rw [Nat.zero_add]; have HS4 := Lib.hid hs4; clear hs4; have kn4 := (ref_q HS4.out.tail.tail HYK.out).1)
        refine hK.out _ _ ?_ (fun hH2 => ?_)
        · (try dsimp only); (first | go_keep | assumption)
        clear hK K hH1
        (try simp only [Act.put, List.setIfInBounds_toArray, List.set_cons_zero, List.set_cons_succ])
        refine wpAnyH_ready (rs := [12]) (by kernel_rfl) (by simp) ?_
        refine AllReadyH.cons rfl (fun K hK => ?_) ?_
        · go_simp
          refine hK.out _ _ ?_ (fun hH3 => ?_)
          · (try dsimp only); (first | go_keep | assumption)
          clear hK K hH2
          (try simp only [Act.put, List.setIfInBounds_toArray, List.set_cons_zero, List.set_cons_succ])
          refine wpAnyH_ready (rs := [13]) (by kernel_rfl) (by simp) ?_
          refine AllReadyH.cons rfl (fun K hK => ?_) ?_
          · first | (refine step_append_sep (w := w) (e := 76) (B := (W.heap.size + 1)) rfl (.tmp 180) (.tmp 184) 69 rfl ie _ 2 16 Tryd.underlying69 IE.out rfl (by decide) (.slice p4 a q4) a (wCells (x.q.take a)) rfl rfl (HS4.out.up1.blk) rfl (ent_one12 h want) HS4.out (by unfold maxLen; omega) (by omega) ?_; intro p5 q5 w5 hs5; have HS5 := Lib.hid hs5; clear hs5; have kn6 := (ref_q HS5.out.tail.tail HYK.out).1) | (refine step_append_sep (w := w) (e := 76) (B := W.heap.size) rfl (.tmp 180) (.tmp 184) 69 rfl ie _ 2 16 Tryd.underlying69 IE.out rfl (by decide) (.slice p4 a q4) a (wCells (x.q.take a)) rfl rfl (HS4.out.up1.blk) rfl (ent_one12 h want) HS4.out (by unfold maxLen; omega) (by omega) ?_; intro p5 q5 w5 hs5; have HS5 := Lib.hid hs5; clear hs5; have kn6 := (ref_q HS5.out.tail.tail HYK.out).1) | (refine step_append_sep (w := w) (e := 76) (B := w4.heap.size) rfl (.tmp 180) (.tmp 184) 69 rfl ie _ 2 16 Tryd.underlying69 IE.out rfl (by decide) (.slice p4 a q4) a (wCells (x.q.take a)) rfl rfl (heap_alloc_self) rfl (ent_one12 h want) (HS4.out.forget (.cells #[.int .i64 h, .int .i64 want] 76)) (by unfold maxLen; omega) (by omega) ?_; intro p5 q5 w5 hs5; have HS5 := Lib.hid hs5; clear hs5; have kn6 := (ref_q HS5.out.tail HYK.out).1)
            refine hK.out _ _ ?_ (fun hH4 => ?_)
            · (try dsimp only); (first | go_keep | assumption)
            clear hK K hH3
            (try simp only [Act.put, List.setIfInBounds_toArray, List.set_cons_zero, List.set_cons_succ])
            refine wpAnyH_ready (rs := [20]) (by kernel_rfl) (by simp) ?_
            refine AllReadyH.cons rfl (fun K hK => ?_) ?_
            · (refine step_append_srcR (w := w) (e := 76) rfl (.tmp 185) (.tmp 191) 69 rfl ie _ 2 16 Tryd.underlying69 IE.out rfl (by decide) (.slice p5 (a + 1) q5) (a + 1) (wCells (x.q.take a) ++ (#[.int .i64 h, .int .i64 want] : Array Value).toList) rfl (some ⟨g2, o2 + a * 2, none⟩) (NQ - a) (cq - a) (wCells (x.q.drop a)) rfl (by rw [wCells_len, List.length_drop, HLQ.out]) (by first | exact held_drop (ref_held HS5.out.tail HYK.out).2 a HAQ.out | exact held_drop (ref_held HS5.out.tail.tail HYK.out).2 a HAQ.out) HD1.out HS5.out (by unfold maxLen; omega) (by omega) ?_; intro p6 q6 w6 hs6; have HS6 := Lib.hid hs6; clear hs6; have kn7 : w6.cell? ⟨g, k * 3 + 2, none⟩ = some (.slice (some ⟨g2, o2, none⟩) NQ cq) := (by first | exact (ref_q HS6.out.tail HYK.out).1 | exact (ref_q HS6.out.tail.tail HYK.out).1); have fn7 : w6.frozen? ⟨g, k * 3 + 2, none⟩ = false := (by first | exact (ref_q HS6.out.tail HYK.out).2 | exact (ref_q HS6.out.tail.tail HYK.out).2))
              refine hK.out _ _ ?_ (fun hH5 => ?_)
              · (try dsimp only); (first | go_keep | assumption)
              clear hK K hH4
              (try simp only [Act.put, List.setIfInBounds_toArray, List.set_cons_zero, List.set_cons_succ])
              refine wpAnyH_take (i := 21) (v := ?_) rfl (by kernel_rfl) (by kernel_rfl) (by kernel_rfl) (fun _ _ _ h => h) (Or.inl ⟨by rfl, ?_⟩) (by assumption) ?_
              rotate_left
              · (intro w hSw; (try dsimp only at hSw); go_simp; try with_reducible rfl)
              (try simp only [Act.put, List.setIfInBounds_toArray, List.set_cons_zero, List.set_cons_succ])
              refine wpAnyH_take (i := 22) (v := ?_) rfl (by kernel_rfl) (by kernel_rfl) (by kernel_rfl) (fun _ _ _ h => h) (Or.inl ⟨by rfl, ?_⟩) (by assumption) ?_
              rotate_left
              · (intro w hSw; (try dsimp only at hSw); go_simp; try with_reducible rfl)
              (try simp only [Act.put, List.setIfInBounds_toArray, List.set_cons_zero, List.set_cons_succ])
              refine wpAnyH_take (i := 23) (v := ?_) rfl (by kernel_rfl) (by kernel_rfl) (by kernel_rfl) (fun _ _ _ h => h) (Or.inl ⟨by rfl, ?_⟩) (by assumption) ?_
              rotate_left
              · (intro w hSw; (try dsimp only at hSw); go_simp; try with_reducible rfl)
              (try simp only [Act.put, List.setIfInBounds_toArray, List.set_cons_zero, List.set_cons_succ])
              refine wpAnyH_done (by kernel_rfl) ?_ _
              refine tail_run rfl rfl ?_
              clear hH5
              go_simp
              go_wp2_with fail
              go_meet
              first | refine HEND.out _ _ _ _ _ ?_ ?_ HS6.out | refine HEND.out _ _ _ _ _ ?_ ?_ HS6.out.up1.tail
              · omega
              · exact wCells_ins _ _ _ _
            exact AllReadyH.nil
          exact AllReadyH.nil
        exact AllReadyH.nil
      refine AllReadyH.cons rfl (fun K hK => ?_) ?_
      · go_simp
        refine hK.out _ _ ?_ (fun hH6 => ?_)
        · (try dsimp only); (first | go_keep | assumption)
        clear hK K hH1
        (try simp only [Act.put, List.setIfInBounds_toArray, List.set_cons_zero, List.set_cons_succ])
        refine wpAnyH_ready (rs := [8]) (by kernel_rfl) (by simp) ?_
        refine AllReadyH.cons rfl (fun K hK => ?_) ?_
        · first | (refine step_append_srcR (w := w) (e := 76) rfl (.tmp 173) (.tmp 179) 69 rfl ie _ 2 16 Tryd.underlying69 IE.out rfl (by decide) (.slice (some ⟨W.heap.size, 0, none⟩) 0 0) 0 [] rfl (some ⟨g2, o2, none⟩) a cq (wCells (x.q.take a)) rfl (by rw [wCells_len, List.length_take, HLQ.out]; omega) SHM0.out HT1.out HM0.out (by unfold maxLen; omega) (by omega) ?_; intro p4 q4 w4 hs4; rw [Nat.zero_add, List.nil_append] at hs4; rw [Nat.zero_add]; have HS4 := Lib.hid hs4; clear hs4; have kn4 := (ref_q HS4.out.tail HYK.out).1; have kn5 : (w4.alloc (.cells #[.int .i64 h, .int .i64 want] 76)).cell? ⟨g, k * 3 + 2, none⟩ = some (.slice (some ⟨g2, o2, none⟩) NQ cq) := Lib.cell?_alloc_some _ kn4) | (refine step_append_srcR (w := w) (e := 76) rfl (.tmp 173) (.tmp 179) 69 rfl ie _ 2 16 Tryd.underlying69 IE.out rfl (by decide) (.slice (some ⟨W.heap.size, 0, none⟩) 0 0) 0 [] rfl (some ⟨g2, o2, none⟩) a cq (wCells (x.q.take a)) rfl (by rw [wCells_len, List.length_take, HLQ.out]; omega) SHM01.out HT1.out HM01.out (by unfold maxLen; omega) (by omega) ?_; intro p4 q4 w4 hs4; rw [Nat.zero_add, List.nil_append] at hs4; rw [Nat.zero_add]; have HS4 := Lib.hid hs4; clear hs4; have kn4 := (ref_q HS4.out.tail.tail HYK.out).1) | (refine step_append_srcR (w := w) (e := 76) rfl (.tmp 173) (.tmp 179) 69 rfl ie _ 2 16 Tryd.underlying69 IE.out rfl (by decide) (.slice (some ⟨W.heap.size + 1, 0, none⟩) 0 0) 0 [] rfl (some ⟨g2, o2, none⟩) a cq (wCells (x.q.take a)) rfl (by rw [wCells_len, List.length_take, HLQ.out]; omega) SHM10.out HT1.out HM10.out (by unfold maxLen; omega) (by omega) ?_; intro p4 q4 w4 hs4; rw [Nat.zero_add, List.nil_append] at hs4; rw [Nat.zero_add]; have HS4 := Lib.hid hs4; clear hs4; have kn4 := (ref_q HS4.out.tail.tail HYK.out).1)
          refine hK.out _ _ ?_ (fun hH7 => ?_)
          · (try dsimp only); (first | go_keep | assumption)
          clear hK K hH6
          (try simp only [Act.put, List.setIfInBounds_toArray, List.set_cons_zero, List.set_cons_succ])
          refine wpAnyH_ready (rs := [13]) (by kernel_rfl) (by simp) ?_
          refine AllReadyH.cons rfl (fun K hK => ?_) ?_
          · first | (refine step_append_sep (w := w) (e := 76) (B := (W.heap.size + 1)) rfl (.tmp 180) (.tmp 184) 69 rfl ie _ 2 16 Tryd.underlying69 IE.out rfl (by decide) (.slice p4 a q4) a (wCells (x.q.take a)) rfl rfl (HS4.out.up1.blk) rfl (ent_one12 h want) HS4.out (by unfold maxLen; omega) (by omega) ?_; intro p5 q5 w5 hs5; have HS5 := Lib.hid hs5; clear hs5; have kn6 := (ref_q HS5.out.tail.tail HYK.out).1) | (refine step_append_sep (w := w) (e := 76) (B := W.heap.size) rfl (.tmp 180) (.tmp 184) 69 rfl ie _ 2 16 Tryd.underlying69 IE.out rfl (by decide) (.slice p4 a q4) a (wCells (x.q.take a)) rfl rfl (HS4.out.up1.blk) rfl (ent_one12 h want) HS4.out (by unfold maxLen; omega) (by omega) ?_; intro p5 q5 w5 hs5; have HS5 := Lib.hid hs5; clear hs5; have kn6 := (ref_q HS5.out.tail.tail HYK.out).1) | (refine step_append_sep (w := w) (e := 76) (B := w4.heap.size) rfl (.tmp 180) (.tmp 184) 69 rfl ie _ 2 16 Tryd.underlying69 IE.out rfl (by decide) (.slice p4 a q4) a (wCells (x.q.take a)) rfl rfl (heap_alloc_self) rfl (ent_one12 h want) (HS4.out.forget (.cells #[.int .i64 h, .int .i64 want] 76)) (by unfold maxLen; omega) (by omega) ?_; intro p5 q5 w5 hs5; have HS5 := Lib.hid hs5; clear hs5; have kn6 := (ref_q HS5.out.tail HYK.out).1)
            refine hK.out _ _ ?_ (fun hH8 => ?_)
            · (try dsimp only); (first | go_keep | assumption)
            clear hK K hH7
            (try simp only [Act.put, List.setIfInBounds_toArray, List.set_cons_zero, List.set_cons_succ])
            refine wpAnyH_ready (rs := [20]) (by kernel_rfl) (by simp) ?_
            refine AllReadyH.cons rfl (fun K hK => ?_) ?_
            · (refine step_append_srcR (w := w) (e := 76) rfl (.tmp 185) (.tmp 191) 69 rfl ie _ 2 16 Tryd.underlying69 IE.out rfl (by decide) (.slice p5 (a + 1) q5) (a + 1) (wCells (x.q.take a) ++ (#[.int .i64 h, .int .i64 want] : Array Value).toList) rfl (some ⟨g2, o2 + a * 2, none⟩) (NQ - a) (cq - a) (wCells (x.q.drop a)) rfl (by rw [wCells_len, List.length_drop, HLQ.out]) (by first | exact held_drop (ref_held HS5.out.tail HYK.out).2 a HAQ.out | exact held_drop (ref_held HS5.out.tail.tail HYK.out).2 a HAQ.out) HD1.out HS5.out (by unfold maxLen; omega) (by omega) ?_; intro p6 q6 w6 hs6; have HS6 := Lib.hid hs6; clear hs6; have kn7 : w6.cell? ⟨g, k * 3 + 2, none⟩ = some (.slice (some ⟨g2, o2, none⟩) NQ cq) := (by first | exact (ref_q HS6.out.tail HYK.out).1 | exact (ref_q HS6.out.tail.tail HYK.out).1); have fn7 : w6.frozen? ⟨g, k * 3 + 2, none⟩ = false := (by first | exact (ref_q HS6.out.tail HYK.out).2 | exact (ref_q HS6.out.tail.tail HYK.out).2))
              refine hK.out _ _ ?_ (fun hH9 => ?_)
              · (try dsimp only); (first | go_keep | assumption)
              clear hK K hH8
              (try simp only [Act.put, List.setIfInBounds_toArray, List.set_cons_zero, List.set_cons_succ])
              refine wpAnyH_take (i := 21) (v := ?_) rfl (by kernel_rfl) (by kernel_rfl) (by kernel_rfl) (fun _ _ _ h => h) (Or.inl ⟨by rfl, ?_⟩) (by assumption) ?_
              rotate_left
              · (intro w hSw; (try dsimp only at hSw); go_simp; try with_reducible rfl)
              (try simp only [Act.put, List.setIfInBounds_toArray, List.set_cons_zero, List.set_cons_succ])
              refine wpAnyH_take (i := 22) (v := ?_) rfl (by kernel_rfl) (by kernel_rfl) (by kernel_rfl) (fun _ _ _ h => h) (Or.inl ⟨by rfl, ?_⟩) (by assumption) ?_
              rotate_left
              · (intro w hSw; (try dsimp only at hSw); go_simp; try with_reducible rfl)
              (try simp only [Act.put, List.setIfInBounds_toArray, List.set_cons_zero, List.set_cons_succ])
              refine wpAnyH_take (i := 23) (v := ?_) rfl (by kernel_rfl) (by kernel_rfl) (by kernel_rfl) (fun _ _ _ h => h) (Or.inl ⟨by rfl, ?_⟩) (by assumption) ?_
              rotate_left
              · (intro w hSw; (try dsimp only at hSw); go_simp; try with_reducible rfl)
              (try simp only [Act.put, List.setIfInBounds_toArray, List.set_cons_zero, List.set_cons_succ])
              refine wpAnyH_done (by kernel_rfl) ?_ _
              refine tail_run rfl rfl ?_
              clear hH9
              go_simp
              go_wp2_with fail
              go_meet
              first | refine HEND.out _ _ _ _ _ ?_ ?_ HS6.out | refine HEND.out _ _ _ _ _ ?_ ?_ HS6.out.up1.tail
              · omega
              · exact wCells_ins _ _ _ _
            exact AllReadyH.nil
          exact AllReadyH.nil
        exact AllReadyH.nil
      exact AllReadyH.nil
    refine AllReadyH.cons rfl (fun K hK => ?_) ?_
    · go_simp
      refine hK.out _ _ ?_ (fun hH10 => ?_)
      · (try dsimp only); (first | go_keep | assumption)
      clear hK K hHeld
      (try simp only [Act.put, List.setIfInBounds_toArray, List.set_cons_zero, List.set_cons_succ])
      refine wpAnyH_ready (rs := [1]) (by kernel_rfl) (by simp) ?_
      refine AllReadyH.cons rfl (fun K hK => ?_) ?_
      · go_simp
        refine hK.out _ _ ?_ (fun hH11 => ?_)
        · (try dsimp only); (first | go_keep | assumption)
        clear hK K hH10
        (try simp only [Act.put, List.setIfInBounds_toArray, List.set_cons_zero, List.set_cons_succ])
        refine wpAnyH_ready (rs := [8]) (by kernel_rfl) (by simp) ?_
        refine AllReadyH.cons rfl (fun K hK => ?_) ?_
        · first | (refine step_append_srcR (w := w) (e := 76) rfl (.tmp 173) (.tmp 179) 69 rfl ie _ 2 16 Tryd.underlying69 IE.out rfl (by decide) (.slice (some ⟨W.heap.size, 0, none⟩) 0 0) 0 [] rfl (some ⟨g2, o2, none⟩) a cq (wCells (x.q.take a)) rfl (by rw [wCells_len, List.length_take, HLQ.out]; omega) SHM0.out HT1.out HM0.out (by unfold maxLen; omega) (by omega) ?_; intro p4 q4 w4 hs4; rw [Nat.zero_add, List.nil_append] at hs4; rw [Nat.zero_add]; have HS4 := Lib.hid hs4; clear hs4; have kn4 := (ref_q HS4.out.tail HYK.out).1; have kn5 : (w4.alloc (.cells #[.int .i64 h, .int .i64 want] 76)).cell? ⟨g, k * 3 + 2, none⟩ = some (.slice (some ⟨g2, o2, none⟩) NQ cq) := Lib.cell?_alloc_some _ kn4) | (refine step_append_srcR (w := w) (e := 76) rfl (.tmp 173) (.tmp 179) 69 rfl ie _ 2 16 Tryd.underlying69 IE.out rfl (by decide) (.slice (some ⟨W.heap.size, 0, none⟩) 0 0) 0 [] rfl (some ⟨g2, o2, none⟩) a cq (wCells (x.q.take a)) rfl (by rw [wCells_len, List.length_take, HLQ.out]; omega) SHM01.out HT1.out HM01.out (by unfold maxLen; omega) (by omega) ?_; intro p4 q4 w4 hs4; rw [Nat.zero_add, List.nil_append] at hs4; rw [Nat.zero_add]; have HS4 := Lib.hid hs4; clear hs4; have kn4 := (ref_q HS4.out.tail.tail HYK.out).1) | (refine step_append_srcR (w := w) (e := 76) rfl (.tmp 173) (.tmp 179) 69 rfl ie _ 2 16 Tryd.underlying69 IE.out rfl (by decide) (.slice (some ⟨W.heap.size + 1, 0, none⟩) 0 0) 0 [] rfl (some ⟨g2, o2, none⟩) a cq (wCells (x.q.take a)) rfl (by rw [wCells_len, List.length_take, HLQ.out]; omega) SHM10.out HT1.out HM10.out (by unfold maxLen; omega) (by omega) ?_; intro p4 q4 w4 hs4; rw [Nat.zero_add, List.nil_append] at hs4; rw [Nat.zero_add]; have HS4 := Lib.hid hs4; clear hs4; have kn4 := (ref_q HS4.out.tail.tail HYK.out).1)
          refine hK.out _ _ ?_ (fun hH12 => ?_)
          · (try dsimp only); (first | go_keep | assumption)
          clear hK K hH11
          (try simp only [Act.put, List.setIfInBounds_toArray, List.set_cons_zero, List.set_cons_succ])
          refine wpAnyH_ready (rs := [13]) (by kernel_rfl) (by simp) ?_
          refine AllReadyH.cons rfl (fun K hK => ?_) ?_
          · first | (refine step_append_sep (w := w) (e := 76) (B := (W.heap.size + 1)) rfl (.tmp 180) (.tmp 184) 69 rfl ie _ 2 16 Tryd.underlying69 IE.out rfl (by decide) (.slice p4 a q4) a (wCells (x.q.take a)) rfl rfl (HS4.out.up1.blk) rfl (ent_one12 h want) HS4.out (by unfold maxLen; omega) (by omega) ?_; intro p5 q5 w5 hs5; have HS5 := Lib.hid hs5; clear hs5; have kn6 := (ref_q HS5.out.tail.tail HYK.out).1) | (refine step_append_sep (w := w) (e := 76) (B := W.heap.size) rfl (.tmp 180) (.tmp 184) 69 rfl ie _ 2 16 Tryd.underlying69 IE.out rfl (by decide) (.slice p4 a q4) a (wCells (x.q.take a)) rfl rfl (HS4.out.up1.blk) rfl (ent_one12 h want) HS4.out (by unfold maxLen; omega) (by omega) ?_; intro p5 q5 w5 hs5; have HS5 := Lib.hid hs5; clear hs5; have kn6 := (ref_q HS5.out.tail.tail HYK.out).1) | (refine step_append_sep (w := w) (e := 76) (B := w4.heap.size) rfl (.tmp 180) (.tmp 184) 69 rfl ie _ 2 16 Tryd.underlying69 IE.out rfl (by decide) (.slice p4 a q4) a (wCells (x.q.take a)) rfl rfl (heap_alloc_self) rfl (ent_one12 h want) (HS4.out.forget (.cells #[.int .i64 h, .int .i64 want] 76)) (by unfold maxLen; omega) (by omega) ?_; intro p5 q5 w5 hs5; have HS5 := Lib.hid hs5; clear hs5; have kn6 := (ref_q HS5.out.tail HYK.out).1)
            refine hK.out _ _ ?_ (fun hH13 => ?_)
            · (try dsimp only); (first | go_keep | assumption)
            clear hK K hH12
            (try simp only [Act.put, List.setIfInBounds_toArray, List.set_cons_zero, List.set_cons_succ])
            refine wpAnyH_ready (rs := [20]) (by kernel_rfl) (by simp) ?_
            refine AllReadyH.cons rfl (fun K hK => ?_) ?_
            · (refine step_append_srcR (w := w) (e := 76) rfl (.tmp 185) (.tmp 191) 69 rfl ie _ 2 16 Tryd.underlying69 IE.out rfl (by decide) (.slice p5 (a + 1) q5) (a + 1) (wCells (x.q.take a) ++ (#[.int .i64 h, .int .i64 want] : Array Value).toList) rfl (some ⟨g2, o2 + a * 2, none⟩) (NQ - a) (cq - a) (wCells (x.q.drop a)) rfl (by rw [wCells_len, List.length_drop, HLQ.out]) (by first | exact held_drop (ref_held HS5.out.tail HYK.out).2 a HAQ.out | exact held_drop (ref_held HS5.out.tail.tail HYK.out).2 a HAQ.out) HD1.out HS5.out (by unfold maxLen; omega) (by omega) ?_; intro p6 q6 w6 hs6; have HS6 := Lib.hid hs6; clear hs6; have kn7 : w6.cell? ⟨g, k * 3 + 2, none⟩ = some (.slice (some ⟨g2, o2, none⟩) NQ cq) := (by first | exact (ref_q HS6.out.tail HYK.out).1 | exact (ref_q HS6.out.tail.tail HYK.out).1); have fn7 : w6.frozen? ⟨g, k * 3 + 2, none⟩ = false := (by first | exact (ref_q HS6.out.tail HYK.out).2 | exact (ref_q HS6.out.tail.tail HYK.out).2))
              refine hK.out _ _ ?_ (fun hH14 => ?_)
              · (try dsimp only); (first | go_keep | assumption)
              clear hK K hH13
              (try simp only [Act.put, List.setIfInBounds_toArray, List.set_cons_zero, List.set_cons_succ])
              refine wpAnyH_take (i := 21) (v := ?_) rfl (by kernel_rfl) (by kernel_rfl) (by kernel_rfl) (fun _ _ _ h => h) (Or.inl ⟨by rfl, ?_⟩) (by assumption) ?_
              rotate_left
              · (intro w hSw; (try dsimp only at hSw); go_simp; try with_reducible rfl)
              (try simp only [Act.put, List.setIfInBounds_toArray, List.set_cons_zero, List.set_cons_succ])
              refine wpAnyH_take (i := 22) (v := ?_) rfl (by kernel_rfl) (by kernel_rfl) (by kernel_rfl) (fun _ _ _ h => h) (Or.inl ⟨by rfl, ?_⟩) (by assumption) ?_
              rotate_left
              · (intro w hSw; (try dsimp only at hSw); go_simp; try with_reducible rfl)
              (try simp only [Act.put, List.setIfInBounds_toArray, List.set_cons_zero, List.set_cons_succ])
              refine wpAnyH_take (i := 23) (v := ?_) rfl (by kernel_rfl) (by kernel_rfl) (by kernel_rfl) (fun _ _ _ h => h) (Or.inl ⟨by rfl, ?_⟩) (by assumption) ?_
              rotate_left
              · (intro w hSw; (try dsimp only at hSw); go_simp; try with_reducible rfl)
              (try simp only [Act.put, List.setIfInBounds_toArray, List.set_cons_zero, List.set_cons_succ])
              refine wpAnyH_done (by kernel_rfl) ?_ _
              refine tail_run rfl rfl ?_
              clear hH14
              go_simp
              go_wp2_with fail
              go_meet
              first | refine HEND.out _ _ _ _ _ ?_ ?_ HS6.out | refine HEND.out _ _ _ _ _ ?_ ?_ HS6.out.up1.tail
              · omega
              · exact wCells_ins _ _ _ _
            exact AllReadyH.nil
          exact AllReadyH.nil
        exact AllReadyH.nil
      exact AllReadyH.nil
    exact AllReadyH.nil
  case rest =>
    obtain ⟨V2, hV2⟩ : ∃ V2 : World, V2 = wc := ⟨_, rfl⟩
    rw [← hV2] at hcut ⊢
    clear hV2
    have HC := Lib.hid hcut; clear hcut
    go_wp2_with fail
    go_ret
    exact ⟨rfl, HC.out⟩

end Go.Proofs.YtipfjjcokajjjaaDoor
