/-
  What is proved here: the statement DevPlays: calls one behind the other on the device and on the reference: each answer, each error, what is held back, what was done; for every input.
  No condition.
-/
import Derived.Test.YtaipjialomjhhaaRef04N
import Derived.Deep.RegionHeld3
import Derived.Deep.QuietTactic
import Derived.BigQuiet
namespace Go.Proofs.Ytaipjialomjhhaa.devPlays
open Go.ChangeShapes Go.WideShapes Go.ChangeAt Go.RowKit Go.Proofs.Ytaipjialomjhhaa
set_option linter.unusedVariables false

theorem Try.infoInt' : (Try.prog.info? 3).map (fun i => (i.zero, i.size, i.bytes)) = some (some (.int .i64 0), 1, 8) := by kernel_rfl

/-- What a step writes. -/
def dataOf (n : Int) (x : UInt8) : ByteArray := if n = 1 then ⟨#[115, 104, 111, 114, 116]⟩ else blk x

set_option maxRecDepth 100000 in
theorem data_any (k p n : Int) (x : UInt8) (kv : Value) (w : World) :
    Calls Try.prog 22 #[.agg #[.int .i64 k, .int .i64 p, .int .i64 n, .int .u8 (x.toNat : Int), kv]] w fun e w' => e = .returned (.string (dataOf n x)) ∧ Only [] w w' := by
  have ho := Only.alloc [] w (.cells #[.int .i64 k, .int .i64 p, .int .i64 n, .int .u8 (x.toNat : Int), kv] 32)
  have HO := Lib.hid ho; clear ho
  by_cases h1 : n = 1
  · have hd : dataOf n x = ⟨#[115, 104, 111, 114, 116]⟩ := by unfold dataOf; rw [if_pos h1]
    rw [hd]
    have h1' : (n == 1) = true := by rw [beq_iff_eq]; exact h1
    clear h1 hd
    go_enter Try.func22, Try.ntmps22
    go_wp2_with fail
    go_ret
    exact ⟨rfl, HO.out⟩
  · have hd : dataOf n x = blk x := by unfold dataOf; rw [if_neg h1]
    rw [hd]
    have h1' : (n == 1) = false := by rw [beq_eq_false_iff_ne]; exact h1
    clear h1 hd
    go_enter Try.func22, Try.ntmps22
    go_wp2_with fail
    refine (block_any x _).mono ?_
    rintro e w2 ⟨rfl, ho2⟩
    have HO2 := Lib.hid (HO.out.trans ho2 (Within.nil _ _)); clear ho2
    go_wp2_with fail
    go_ret
    exact ⟨rfl, HO2.out⟩

theorem only_cell {w W : World} (ho : Only [] w W) {a : Addr} {v : Value} (h : w.cell? a = some v) : W.cell? a = some v := by
  rw [ho.cell (addr_plain h |>.elim fun b hb => hb.elim fun o ho => by rw [ho.1]; exact ho.2) (by simp)]
  exact h

/-- 'Ints' at two readings of one list. -/
theorem ints_same (l : List Int) (p1 p2 : Option Addr) (q1 q2 : Nat) (w : World) (hl : ((l.length : Nat) : Int) ≤ 9223372036854775807)
    (h1 : ∀ j x, l[j]? = some x → ∃ b o, p1 = some ⟨b, o, none⟩ ∧ w.cell? ⟨b, o + j, none⟩ = some (.int .i64 x))
    (h2 : ∀ j x, l[j]? = some x → ∃ b o, p2 = some ⟨b, o, none⟩ ∧ w.cell? ⟨b, o + j, none⟩ = some (.int .i64 x)) :
    Calls Try.prog 27 #[.slice p1 l.length q1, .slice p2 l.length q2] w fun e w' => e = .returned (.bool true) ∧ Only [] w w' := by
  have H1 := Lib.hid h1; clear h1
  have H2 := Lib.hid h2; clear h2
  have e0 : ((l.length : Int) != (l.length : Int)) = false := bne_self_eq_false _
  go_enter Try.func27, Try.ntmps27
  go_wp2_with fail
  go_loopw [5] (fun i wr => ∃ k : Nat, k ≤ l.length ∧ i = .int .i64 k ∧ Only [] w wr) (fun i _ => l.length - (intOf i).toNat)
  case atStart => exact ⟨0, Nat.zero_le _, rfl, Only.refl _ _⟩
  case round =>
    obtain ⟨k, hk, rfl, ho⟩ := hrel
    have HO := Lib.hid ho; clear ho
    by_cases hlt : k < l.length
    · obtain ⟨b1, o1, hp1, c1⟩ := H1.out k l[k] (List.getElem?_eq_getElem hlt)
      obtain ⟨b2, o2, hp2, c2⟩ := H2.out k l[k] (List.getElem?_eq_getElem hlt)
      subst hp1 hp2
      have d1 := only_cell HO.out c1
      have d2 := only_cell HO.out c2
      clear c1 c2
      have l1 : (k : Int) < l.length := by omega
      generalize l[k] = x at *
      have e1 : (x != x) = false := bne_self_eq_false _
      go_wp2_with fail
      go_quiet (fail)
      go_wp2_with fail
      go_roundw
      case rel => exact ⟨k + 1, by omega, by go_num, HO.out.trans (Only.drewN [] _ _) (Within.refl _ _)⟩
      case measure => simp [intOf]; omega
    · go_wp2_with fail
      go_ret
      exact ⟨rfl, HO.out⟩

/-- How memory stands at the head of a round: the device and the reference's have one state. -/
def LoopAt (w : World) (a b : Nat) (i : Nat) (W : World) : Prop := ∃ d, Sep w W [devRes a d, refRes b d] ∧ d.held.length ≤ i

/-- A step's cells. -/
def stepCells (x : StepD) : Array Value := #[.int .i64 x.kind, .int .i64 x.place, .int .i64 x.n, .int .u8 (x.fill.toNat : Int), .slice x.kp x.keep.length x.kq]
/-- The same, with the variable that holds the step. -/
def MidAt (w : World) (a b : Nat) (i g : Nat) (x : StepD) (W : World) : Prop := ∃ d, Sep w W [devRes a d, refRes b d, blkRes g (.cells (stepCells x) 32 (0, 0))] ∧ d.held.length ≤ i

/-- The five cells of a turn's own block. -/
abbrev FiveAt (g : Nat) (x : StepD) (W : World) : Prop :=
  W.cell? ⟨g, 0, none⟩ = some (.int .i64 x.kind) ∧ W.cell? ⟨g, 1, none⟩ = some (.int .i64 x.place) ∧ W.cell? ⟨g, 2, none⟩ = some (.int .i64 x.n) ∧ W.cell? ⟨g, 3, none⟩ = some (.int .u8 (x.fill.toNat : Int)) ∧ W.cell? ⟨g, 4, none⟩ = some (.slice x.kp x.keep.length x.kq)

theorem five_of_block {g : Nat} {x : StepD} {W : World} {T m} (hb : W.heap[g]? = some (.cells (stepCells x) T m)) : FiveAt g x W := by
  have e0 : W.cell? ⟨g, 0, none⟩ = some (.int .i64 x.kind) := cell_of_block hb 0 rfl
  have e1 : W.cell? ⟨g, 1, none⟩ = some (.int .i64 x.place) := cell_of_block hb 1 rfl
  have e2 : W.cell? ⟨g, 2, none⟩ = some (.int .i64 x.n) := cell_of_block hb 2 rfl
  have e3 : W.cell? ⟨g, 3, none⟩ = some (.int .u8 (x.fill.toNat : Int)) := cell_of_block hb 3 rfl
  have e4 : W.cell? ⟨g, 4, none⟩ = some (.slice x.kp x.keep.length x.kq) := cell_of_block hb 4 rfl
  exact ⟨e0, e1, e2, e3, e4⟩

theorem len_write (d : DevS) (p : Int) (s : ByteArray) : (d.write p s).2.held.length ≤ d.held.length + 1 := by
  simp only [DevS.write]
  split
  · split
    · split
      · simp
      · split
        · simp
        · simp [DevS.store, DevS.did]
    · simp
  · simp
theorem len_flush (d : DevS) : d.flush.2.held.length ≤ d.held.length + 1 := by
  simp only [DevS.flush]
  split
  · simp
  · simp [DevS.did]

set_option maxRecDepth 100000 in
set_option maxHeartbeats 4000000 in
theorem walk (sectors : Int) (p : Option Addr) (l : List StepD) (q : Nat) (w : World) (hn : inI64 sectors) (hl : ((l.length : Nat) : Int) ≤ 9223372036854775807) (hst : StepsAt w p l) :
    Calls Try.prog 6 #[.int .i64 sectors, .slice p l.length q] w fun e w' => e = .returned (.bool true) ∧ Only [] w w' := by
  obtain ⟨hn1, hn2⟩ := hn
  have HST := Lib.hid hst; clear hst
  go_enter Try.func6, Try.ntmps6
  go_upto_region 1 with fail
  go_cut [26] (fun s26 wx => w = wx ∧ ∃ c : Bool, s26 = .bool c ∧ (c = true → 200 < sectors))
  case first =>
    by_cases h1 : 200 < sectors
    · go_wp2_with fail
      go_meet
      exact ⟨rfl, _, rfl, fun _ => h1⟩
    · go_wp2_with fail
      go_meet
      exact ⟨rfl, _, rfl, fun h => by simp at h⟩
  case rest =>
  obtain ⟨rfl, c, rfl, hc⟩ := hcut
  go_upto_if 26 with fail
  go_cut [0] (fun s0 wx => w = wx ∧ ∃ n : Int, s0 = .int .i64 n ∧ inI64 n)
  case first =>
    cases c
    · clear hc
      go_wp2_with fail
      go_meet
      exact ⟨rfl, _, rfl, hn1, hn2⟩
    · have h1 := hc rfl
      clear hc
      go_wp2_with fail
      go_meet
      exact ⟨rfl, _, rfl, by unfold inI64; omega⟩
  case rest =>
    obtain ⟨rfl, n, rfl, hn1', hn2'⟩ := hcut
    by_cases hbad : n < 1 ∨ 8192 < n
    · go_wp2_with fail
      refine (new_arg n _ hbad).mono ?_
      rintro e w1 ⟨rfl, rfl⟩
      go_wp2_with fail
      refine (ref_new_arg n _ hbad).mono ?_
      rintro e w1 ⟨rfl, rfl⟩
      clear hbad
      go_wp2_with fail
      refine (wakes_any _).mono ?_
      rintro e w2 ⟨rfl, ho2⟩
      have HO2 := Lib.hid ho2; clear ho2
      go_wp2_with fail
      go_ret
      exact ⟨rfl, HO2.out⟩
    · obtain ⟨m, rfl⟩ : ∃ m : Nat, n = (m : Int) := ⟨n.toNat, by omega⟩
      have hm1 : 1 ≤ m := by omega
      have hm2 : m ≤ 8192 := by omega
      clear hbad
      go_wp2_with fail
      refine (sep_new (Sep.nil _) m hm1 hm2).mono ?_
      rintro e w1 ⟨a, rfl, hs1⟩
      have HS1 := Lib.hid hs1; clear hs1
      go_wp2_with fail
      refine (ref_new m HS1.out hm1 hm2).mono ?_
      rintro e w2 ⟨b, rfl, hs2⟩
      have HS2 := Lib.hid hs2.up1; clear hs2
      go_upto_block 0 with fail
      go_cut [] (fun wx => ∃ d, Sep w wx [devRes a d, refRes b d])
      case first =>
        go_wp2_with fail
        go_loopw [9] (fun s9 wr => ∃ i : Nat, i ≤ l.length ∧ i ≤ 200 ∧ s9 = .int .i64 i ∧ LoopAt w a b i wr) (fun s9 _ => l.length - (intOf s9).toNat)
        case atStart => exact ⟨0, Nat.zero_le _, Nat.zero_le _, rfl, _, HS2.out, Nat.zero_le _⟩
        case round =>
          obtain ⟨i, hi1, hi2, rfl, d, hs, hlen⟩ := hrel
          have HS := Lib.hid hs; clear hs HS1 HS2
          by_cases hlt : i < l.length ∧ i < 200
          · obtain ⟨hlt1, hlt2⟩ := hlt
            obtain ⟨b', o, hp, hb, r1, r2, r3, r4, r5, c0, c1, c2, c3, c4, ci⟩ := HST.out i l[i] (List.getElem?_eq_getElem hlt1)
            subst hp
            generalize l[i] = x at *
            obtain ⟨r1a, r1b⟩ := r1
            obtain ⟨r2a, r2b⟩ := r2
            obtain ⟨r3a, r3b⟩ := r3
            have hold := HS.out.old
            have d0 := only_cell hold c0
            have d1 := only_cell hold c1
            have d2 := only_cell hold c2
            have d3 := only_cell hold c3
            have d4 := only_cell hold c4
            have HCI := Lib.hid ci; clear ci
            have HR5 := Lib.hid r5; clear r5
            clear c0 c1 c2 c3 c4 hold
            have HX : Hid (MidAt w a b i wr.heap.size x (wr.alloc (.cells (stepCells x) 32))) := ⟨d, (HS.out.alloc (stepCells x) 32).dn2, hlen⟩
            obtain ⟨g, hg⟩ : ∃ g, g = wr.heap.size := ⟨_, rfl⟩
            rw [← hg] at HX
            have HG := Lib.hid hg; clear hg
            by_cases hkl : 1000 < x.keep.length
            · obtain ⟨d', hs', _⟩ := HX.out
              have e4 : (wr.alloc (.cells (stepCells x) 32)).cell? ⟨wr.heap.size, 4, none⟩ = some (.slice x.kp x.keep.length x.kq) := by rw [← HG.out]; exact cell_of_block hs'.up2.blk 4 rfl
              have HO := Lib.hid hs'.old; clear hs'
              go_wp2_with fail
              refine (wakes_any _).mono ?_
              rintro e w5 ⟨rfl, ho5⟩
              have HO5 := Lib.hid (HO.out.trans ho5 (Within.nil _ _)); clear ho5
              go_wp2_with fail
              go_ret
              exact ⟨rfl, HO5.out⟩
            · obtain ⟨d', hs', _⟩ := HX.out
              have e0 : (wr.alloc (.cells (stepCells x) 32)).cell? ⟨wr.heap.size, 0, none⟩ = some (.int .i64 x.kind) := by rw [← HG.out]; exact cell_of_block hs'.up2.blk 0 rfl
              have e4 : (wr.alloc (.cells (stepCells x) 32)).cell? ⟨wr.heap.size, 4, none⟩ = some (.slice x.kp x.keep.length x.kq) := by rw [← HG.out]; exact cell_of_block hs'.up2.blk 4 rfl
              clear hs'
              go_upto_block 2 with fail
              rw [← HG.out] at e0 e4
              rw [← HG.out]
              have hV : (wr.alloc (.cells (stepCells x) 32)) = (wr.alloc (.cells #[.int .i64 x.kind, .int .i64 x.place, .int .i64 x.n, .int .u8 (x.fill.toNat : Int), .slice x.kp x.keep.length x.kq] 32)) := rfl
              rw [hV] at HX e0 e4
              clear hV
              generalize (wr.alloc (.cells #[.int .i64 x.kind, .int .i64 x.place, .int .i64 x.n, .int .u8 (x.fill.toNat : Int), .slice x.kp x.keep.length x.kq] 32)) = V at *
              clear d0 d1 d2 d3 d4 e0 e4
              go_cut [] (fun wx => MidAt w a b (i + 1) g x wx)
              case first =>
                obtain ⟨d, hs, hd⟩ := HX.out
                have hheld : d.held.length ≤ 1000000 := by omega
                have HV := Lib.hid hs
                have hb := hs.up2.blk
                have e0 : V.cell? ⟨g, 0, none⟩ = some (.int .i64 x.kind) := cell_of_block hb 0 rfl
                have e1 : V.cell? ⟨g, 1, none⟩ = some (.int .i64 x.place) := cell_of_block hb 1 rfl
                have e2 : V.cell? ⟨g, 2, none⟩ = some (.int .i64 x.n) := cell_of_block hb 2 rfl
                have e3 : V.cell? ⟨g, 3, none⟩ = some (.int .u8 (x.fill.toNat : Int)) := cell_of_block hb 3 rfl
                have e4 : V.cell? ⟨g, 4, none⟩ = some (.slice x.kp x.keep.length x.kq) := cell_of_block hb 4 rfl
                clear hs hb
                by_cases k0 : (x.kind == 0) = true
                · as_aux_lemma =>
                  have hkeep : ∀ W' R1 R2, Sep w W' [R1, R2, blkRes g (.cells (stepCells x) 32 (0, 0))] → FiveAt g x W' := fun W' R1 R2 h => five_of_block h.up2.blk
                  have HKP := Lib.hid hkeep; clear hkeep
                  have hl := len_write d x.place (dataOf x.n x.fill)
                  go_upto_region 16 with fail
                  go_cut [101] (fun s101 wx => s101 = .bool false ∧ MidAt w a b (i + 1) g x wx)
                  case first =>
                    have hv0 := HV.out
                    have hv1 := hv0.drew
                    go_region_held3 (fun w' => FiveAt g x w') (first | exact ⟨e0, e1, e2, e3, e4⟩ | exact HKP.out _ _ _ (by assumption))
                      (first
                        | (go_at_call 22; refine (data_any x.kind x.place x.n x.fill _ _).mono ?_; rintro e w' ⟨rfl, ho⟩; have ho' := Sep.only (by assumption) ho; clear ho)
                        | (go_at_call 10; refine (sep_write x.place (dataOf x.n x.fill) (by assumption) hheld).mono ?_; rintro e w' ⟨rfl, hs'⟩; have ho' := hs'.up1; clear hs')
                        | (go_at_call 23; refine (ref_write x.place (dataOf x.n x.fill) (by assumption) hheld).mono ?_; rintro e w' ⟨rfl, hs'⟩; have ho' := hs'.up1; clear hs'))
                    all_goals
                      go_wp2_with fail
                      go_meet
                      exact ⟨rfl, _, by assumption, by omega⟩
                  case rest =>
                    obtain ⟨rfl, HP⟩ := hcut
                    go_wp2_with fail
                    go_meet
                    exact HP
                · have k0' : (x.kind == 0) = false := by simpa using k0
                  clear k0
                  by_cases k2 : (x.kind == 2) = true
                  · as_aux_lemma =>
                    go_wp2_with fail
                    refine (sep_flush HV.out hheld).mono ?_
                    rintro e w5 ⟨rfl, hs5⟩
                    have HS5 := Lib.hid hs5.up1; clear hs5
                    go_wp2_with fail
                    refine (ref_flush HS5.out hheld).mono ?_
                    rintro e w6 ⟨rfl, hs6⟩
                    have hl := len_flush d
                    have HP : Hid (MidAt w a b (i + 1) g x w6) := ⟨_, hs6.up1, by omega⟩
                    clear hs6 hl
                    go_wp2_with fail
                    go_meet
                    exact HP.out
                  · have k2' : (x.kind == 2) = false := by simpa using k2
                    clear k2
                    by_cases k3 : (x.kind == 3) = true
                    · as_aux_lemma =>
                      go_wp2_with fail
                      refine (sep_arm x.n HV.out r3a r3b).mono ?_
                      rintro e w5 ⟨rfl, hs5⟩
                      have HS5 := Lib.hid hs5.up1; clear hs5
                      have e2' : w5.cell? ⟨g, 2, none⟩ = some (.int .i64 x.n) := cell_of_block HS5.out.up2.blk 2 rfl
                      go_wp2_with fail
                      refine (ref_arm x.n HS5.out r3a r3b).mono ?_
                      rintro e w6 ⟨rfl, hs6⟩
                      have HP : Hid (MidAt w a b (i + 1) g x w6) := ⟨_, hs6.up1, by simp only [DevS.arm]; omega⟩
                      clear hs6
                      go_wp2_with fail
                      go_meet
                      exact HP.out
                    · have k3' : (x.kind == 3) = false := by simpa using k3
                      clear k3
                      by_cases k4 : (x.kind == 4) = true
                      · as_aux_lemma =>
                        have hrow := HV.out.row_made 3 1
                        have HROW := Lib.hid hrow; clear hrow
                        have e4b : (V.alloc (.cells #[] 3)).cell? ⟨g, 4, none⟩ = some (.slice x.kp x.keep.length x.kq) := cell_of_block HROW.out.up3.blk 4 rfl
                        obtain ⟨ii, II⟩ := info_of Try.infoInt'
                        have hsrc : ∀ j u, (x.keep.map (Value.int .i64))[j]? = some u → ∃ b o, x.kp = some ⟨b, o, none⟩ ∧ (V.alloc (.cells #[] 3)).cell? ⟨b, o + j, none⟩ = some u := by
                          intro j u hu
                          simp only [List.getElem?_map, Option.map_eq_some_iff] at hu
                          obtain ⟨y, hy, rfl⟩ := hu
                          obtain ⟨b2, o2, e, hb2, hc2⟩ := (HCI.out.only (HV.out.forget (.cells #[] 3)).old) j y hy
                          exact ⟨b2, o2, e, hc2⟩
                        have HSRC := Lib.hid hsrc; clear hsrc
                        have HONE : Hid (∀ u ∈ x.keep.map (Value.int .i64), u.oneCell' = true) := by intro u hu; simp only [List.mem_map] at hu; obtain ⟨y, _, rfl⟩ := hu; rfl
                        go_wp2_with (at_builtin; go_must (refine wpList_append_src (w := w) (e := 3) (l := [devRes a d, refRes b d, blkRes g (.cells (stepCells x) 32 (0, 0))]) rfl (.tmp 121) (.tmp 123) 23 rfl ii _ 1 8 Try.underlying23 II.out rfl (by decide) _ 0 [] rfl x.kp x.keep.length x.kq (x.keep.map (Value.int .i64)) rfl (by simp) HSRC.out HONE.out HROW.out (by unfold maxLen; omega) (by omega) ?_))
                        intro p' q' w6 hs6
                        have HS6 := Lib.hid hs6.up1; clear hs6 HROW HSRC
                        go_wp2_with fail
                        refine (sep_crash_row HS6.out hheld (by omega)).mono ?_
                        rintro e w7 ⟨rfl, hs7⟩
                        have HS7 := Lib.hid hs7.up2; clear hs7 HS6
                        have e4' : w7.cell? ⟨g, 4, none⟩ = some (.slice x.kp x.keep.length x.kq) := cell_of_block HS7.out.up3.blk 4 rfl
                        go_wp2_with fail
                        refine (ref_crash x.kp x.kq x.keep HS7.out hheld HCI.out).mono ?_
                        rintro e w8 ⟨rfl, hs8⟩
                        have HS8 := Lib.hid hs8; clear hs8 HS7
                        have e4'' : w8.cell? ⟨g, 4, none⟩ = some (.slice x.kp x.keep.length x.kq) := cell_of_block HS8.out.up3.blk 4 rfl
                        have hrow := HS8.out.up2.row
                        have hin := HCI.out.only HS8.out.old
                        have HI1 : Hid (∀ j y, x.keep[j]? = some y → ∃ b o, p' = some ⟨b, o, none⟩ ∧ w8.cell? ⟨b, o + j, none⟩ = some (.int .i64 y)) := by
                          intro j y hy
                          obtain ⟨g', e, h1, _⟩ := ownsRow_cell_of hrow (j := j) (u := .int .i64 y) (by simp [hy])
                          exact ⟨g', 0, e, by rw [Nat.zero_add]; exact h1⟩
                        have HI2 : Hid (∀ j y, x.keep[j]? = some y → ∃ b o, x.kp = some ⟨b, o, none⟩ ∧ w8.cell? ⟨b, o + j, none⟩ = some (.int .i64 y)) := by
                          intro j y hy
                          obtain ⟨b2, o2, e, hb2, hc2⟩ := hin j y hy
                          exact ⟨b2, o2, e, hc2⟩
                        clear hrow hin
                        go_wp2_with fail
                        refine (ints_same x.keep p' x.kp q' x.kq _ (by omega) HI1.out HI2.out).mono ?_
                        rintro e w9 ⟨rfl, ho9⟩
                        have HP : Hid (MidAt w a b (i + 1) g x w9) := ⟨_, (HS8.out.up2.tail.only ho9).up1, by simp [DevS.crash]⟩
                        clear ho9 HI1 HI2 HS8
                        go_wp2_with fail
                        go_meet
                        exact HP.out
                      · have k4' : (x.kind == 4) = false := by simpa using k4
                        clear k4
                        by_cases k5 : (x.kind == 5) = true
                        · as_aux_lemma =>
                          go_wp2_with fail
                          refine (sep_refuse x.n HV.out r3b).mono ?_
                          rintro e w5 ⟨rfl, hs5⟩
                          have HS5 := Lib.hid hs5.up1; clear hs5
                          have e2' : w5.cell? ⟨g, 2, none⟩ = some (.int .i64 x.n) := cell_of_block HS5.out.up2.blk 2 rfl
                          go_wp2_with fail
                          refine (ref_refuse x.n HS5.out r3b).mono ?_
                          rintro e w6 ⟨rfl, hs6⟩
                          have HP : Hid (MidAt w a b (i + 1) g x w6) := ⟨_, hs6.up1, by simp only [DevS.refuse]; omega⟩
                          clear hs6
                          go_wp2_with fail
                          go_meet
                          exact HP.out
                        · have k5' : (x.kind == 5) = false := by simpa using k5
                          clear k5
                          have HP : Hid (MidAt w a b (i + 1) g x V) := ⟨d, HV.out, by omega⟩
                          go_wp2_with fail
                          go_meet
                          exact HP.out
              case rest =>
                obtain ⟨d, hs, hd⟩ := hcut
                as_aux_lemma =>
                have HS := Lib.hid hs
                have e1 : wc.cell? ⟨g, 1, none⟩ = some (.int .i64 x.place) := cell_of_block hs.up2.blk 1 rfl
                clear hs HX HCI HR5 HG
                go_wp2_with fail
                refine (sep_read x.place HS.out).mono ?_
                rintro e w5 ⟨rfl, rfl⟩
                go_wp2_with fail
                refine (ref_read x.place HS.out.up1).mono ?_
                rintro e w5 ⟨rfl, rfl⟩
                obtain ⟨rs, rc⟩ := d.read x.place
                have q1 : (rc != rc) = false := bne_self_eq_false _
                have q2 : (rs.toList == rs.toList) = true := beq_self_eq_true _
                have q3 : ((d.held.length : Int) != d.held.length) = false := bne_self_eq_false _
                have q4 : (d.ops != d.ops) = false := bne_self_eq_false _
                have q5 : (d.down != d.down) = false := bne_self_eq_false _
                have q6 : ((d.now.length : Int) != d.now.length) = false := bne_self_eq_false _
                go_wp2_with (first
                  | (go_at_call 16; go_must (refine (sep_held HS.out).mono ?_); rintro e w' ⟨rfl, rfl⟩)
                  | (go_at_call 30; go_must (refine (ref_held HS.out.up1).mono ?_); rintro e w' ⟨rfl, rfl⟩)
                  | (go_at_call 20; go_must (refine (sep_ops HS.out).mono ?_); rintro e w' ⟨rfl, rfl⟩)
                  | (go_at_call 31; go_must (refine (ref_ops HS.out.up1).mono ?_); rintro e w' ⟨rfl, rfl⟩)
                  | (go_at_call 17; go_must (refine (sep_down HS.out).mono ?_); rintro e w' ⟨rfl, rfl⟩)
                  | (go_at_call 32; go_must (refine (ref_down HS.out.up1).mono ?_); rintro e w' ⟨rfl, rfl⟩)
                  | (go_at_call 33; go_must (refine (sep_sectors HS.out).mono ?_); rintro e w' ⟨rfl, rfl⟩)
                  | (go_at_call 34; go_must (refine (ref_sectors HS.out.up1).mono ?_); rintro e w' ⟨rfl, rfl⟩))
                go_roundw
                case rel => exact ⟨i + 1, by omega, by omega, by go_num, d, HS.out.up2.tail, hd⟩
                case measure => simp [intOf]; omega
          · have HP : Hid (∃ d, Sep w wr [devRes a d, refRes b d]) := ⟨d, HS.out⟩
            have hguard : (i < l.length ∧ ¬ i < 200) ∨ ¬ i < l.length := by omega
            rcases hguard with ⟨g1, g2⟩ | g1
            all_goals
              go_wp2_with fail
              go_meet
              exact HP.out
      case rest =>
        obtain ⟨d, hs⟩ := hcut
        as_aux_lemma =>
        have HS := Lib.hid hs; clear hs HS1 HS2
        go_wp2_with fail
        go_loopw [16] (fun s16 wr => ∃ j : Nat, j ≤ d.now.length + 2 ∧ s16 = .int .i64 ((j : Int) - 1) ∧ Sep w wr [devRes a d, refRes b d]) (fun s16 _ => (d.now.length + 2) - (intOf s16 + 1).toNat)
        case atStart => exact ⟨0, Nat.zero_le _, rfl, HS.out⟩
        case round =>
          obtain ⟨j, hj, rfl, hs⟩ := hrel
          have HW := Lib.hid hs; clear hs HS
          have hfew := (sep_wf HW.out).few
          by_cases hlt : ((j : Int) - 1) ≤ d.now.length
          · go_wp2_with fail
            refine (ref_sectors HW.out.up1).mono ?_
            rintro e w5 ⟨rfl, rfl⟩
            go_wp2_with fail
            refine (sep_read ((j : Int) - 1) HW.out).mono ?_
            rintro e w5 ⟨rfl, rfl⟩
            go_wp2_with fail
            refine (ref_read ((j : Int) - 1) HW.out.up1).mono ?_
            rintro e w5 ⟨rfl, rfl⟩
            obtain ⟨rs, rc⟩ := d.read ((j : Int) - 1)
            have q1 : (rc != rc) = false := bne_self_eq_false _
            have q2 : (rs.toList == rs.toList) = true := beq_self_eq_true _
            go_wp2_with fail
            go_roundw
            case rel => exact ⟨j + 1, by omega, by go_num, HW.out⟩
            case measure => simp [intOf]; omega
          · go_wp2_with fail
            refine (ref_sectors HW.out.up1).mono ?_
            rintro e w5 ⟨rfl, rfl⟩
            go_wp2_with fail
            refine (wakes_any _).mono ?_
            rintro e w6 ⟨rfl, ho6⟩
            have HO6 := Lib.hid (HW.out.old.trans ho6 (Within.nil _ _)); clear ho6
            go_wp2_with fail
            go_ret
            exact ⟨rfl, HO6.out⟩


theorem own : ownKnob Try.prog.godebug = none := by kernel_rfl
theorem laidOut : laidOutB Try.prog = true := by kernel_rfl

set_option maxRecDepth 100000 in
theorem lifted (os : Os) (started : os.Started) (H : Type) (enc : TypeId × Value → H) :
    ReturnsInHanded {} Try.checked os 6 .any (Rows.devPlaysSpec.pre6 enc Try.prog Try.f6 Rows.devPlaysRow.domain false) (Rows.devPlaysSpec.post enc Try.prog Try.f6 false true false false) := by
  refine returnsInHanded_of_change (C := Try.checked) own started (by kernel_rfl) Try.func6
    (ChangeSpec.witness6 (enc := enc) (C := Try.checked) false ⟨#[], #[.int .i64 0, .slice none 0 0], []⟩ 8 (by kernel_rfl) (by kernel_rfl) (by kernel_rfl) (by kernel_rfl)) ?_
  intro W base args ds gs before hval0 hW hcnd _
  have hval : ∀ (j : Nat) t v, Try.f6.params[j]? = some t → args[j]? = some v → Value.okWide Try.prog W .any base t v := hval0
  have hW' := hW
  obtain ⟨pp, pq, hA0, hV, rfl, hfz, hnd⟩ := hW
  have hA : DataW.TrodAll enc Try.prog W 0 (fun _ => true) true Try.f6.params.toList args.toList ds pp := hA0
  rw [Try.params6] at hA hval
  obtain ⟨v0, vs0, d0, ds0, p0, q0, hargs, rfl, rfl, h0, r0⟩ := trodAll_cons hA
  obtain ⟨v1, vs1, d1, ds1, p1, q1, rfl, rfl, rfl, h1, r1⟩ := trodAll_cons r0
  obtain ⟨rfl, rfl, rfl⟩ := trodAll_nil r1
  obtain rfl : args = #[v0, v1] := by cases args; simp_all
  obtain ⟨rfl, rfl⟩ := trodVars_none hV
  obtain ⟨a0, rfl, rfl, rfl, w0⟩ := open_int Try.underlying3 (hval 0 3 v0 rfl rfl) h0
  obtain ⟨sp1, sl1, sq1, rfl, hl1, hst1⟩ := open_steps (W := W) (v := v1) (by
    obtain ⟨a, len, cap, rfl⟩ := okWide_slice Try.underlying22 (hval 1 22 v1 rfl rfl)
    exact ⟨a, len, cap, rfl⟩) h1
  clear hA0 hval0
  simp only [List.append_nil] at hW'
  refine (walk a0 sp1 sl1 sq1 W (bounds_i64 w0) hl1 hst1).mono fun e W' ⟨he, hg⟩ => ?_
  subst he
  have hb : Below W.heap.size W W' := hg.below (Nat.le_refl _) (by simp)
  have hargs := (trodAll_cons_mk (shut_int Try.underlying3 w0) (trodAll_cons_mk (Below.trod laidOut (by kernel_rfl) (of_decide_eq_true (by kernel_rfl)) h1 hb (fun x hx => hW'.lt x (by simp [hx]))) trodAll_mk0))
  simp only [List.append_nil] at hargs
  exact ⟨_, rfl, _, _, _, [], _, [], hW', trodAll_cons_mk (shut_bool Try.underlying4 _) trodAll_mk0, hargs, rfl, hb.frame _, fun h => by cases h⟩

theorem over : Rows.devPlaysRow.holds Try.pinned (OpenSpec.ofChange Rows.devPlaysSpec) :=
  OpenClaim.holds_of_wide 6 Try.f6 rfl rfl rfl rfl rfl rfl rfl ⟨rfl, rfl, rfl, rfl, rfl⟩ rfl rfl rfl rfl rfl (by kernel_rfl) Try.func6 (by kernel_rfl)
    (of_decide_eq_true (by kernel_rfl)) (by unfold Func.isWrapper; first | (rw [if_pos (by decide +kernel)]; kernel_rfl) | (rw [if_neg (by decide +kernel)]; exact ⟨rfl, rfl⟩))
    (fun os started H enc _ => lifted os started H enc)

theorem proved : Rows.DevPlaysSaid := over
#print axioms proved
end Go.Proofs.Ytaipjialomjhhaa.devPlays
