/-
  What is proved here: the statement DevArms: just so many operations more are OK, then nothing is, till a crash; just the write that is refused is refused; for every input.
  No condition.
-/
import Derived.Test.YtaipjialomjhhaaSteps
import Derived.Deep.RegionHeld3
import Derived.Deep.DeepCutAuto
namespace Go.Proofs.Ytaipjialomjhhaa.devArms
open Go.ChangeShapes Go.WideShapes Go.ChangeAt Go.RowKit Go.Proofs.Ytaipjialomjhhaa
set_option linter.unusedVariables false

structure Inv (d : DevS) (k r ok writes i : Nat) : Prop where
  armed : d.armed = true
  left : d.left = ((k - ok : Nat) : Int)
  ops : d.ops = ok
  refused : d.refused = ((r - writes : Nat) : Int)
  le : ok ≤ k
  lei : ok ≤ i
  lew : writes ≤ i
  now : d.now.length = 8
  held : d.held.length ≤ i

theorem Inv.next {d : DevS} {k r ok writes i : Nat} (h : Inv d k r ok writes i) : Inv d k r ok writes (i + 1) :=
  ⟨h.armed, h.left, h.ops, h.refused, h.le, Nat.le_succ_of_le h.lei, Nat.le_succ_of_le h.lew, h.now, Nat.le_succ_of_le h.held⟩

theorem Inv.down {d : DevS} {k r ok writes i : Nat} (h : Inv d k r ok writes i) : d.down = decide (k ≤ ok) := by
  unfold DevS.down
  rw [h.armed, h.left, Bool.true_and]
  have := h.le
  rw [Bool.eq_iff_iff, decide_eq_true_iff, decide_eq_true_iff]
  omega

theorem write_down {d : DevS} {k r ok writes i : Nat} (h : Inv d k r ok writes i) (hk : k ≤ ok) (m : Int) (hm : 0 ≤ m ∧ m < 8) (s : ByteArray) (hs : s.size = 512) : d.write m s = (41, d) := by
  have hd := h.down
  rw [decide_eq_true hk] at hd
  have hn : (0 ≤ m ∧ m < (d.now.length : Int)) := by rw [h.now]; exact hm
  simp only [DevS.write]
  rw [if_pos hn, if_pos hs, if_pos hd]

theorem write_broken {d : DevS} {k r ok writes i : Nat} (h : Inv d k r ok writes i) (hk : ok < k) (hr : writes + 1 = r) (m : Int) (hm : 0 ≤ m ∧ m < 8) (s : ByteArray) (hs : s.size = 512) :
    (d.write m s).1 = 42 ∧ Inv (d.write m s).2 k r ok (writes + 1) (i + 1) := by
  have hd := h.down
  rw [decide_eq_false (by omega)] at hd
  have hn : (0 ≤ m ∧ m < (d.now.length : Int)) := by rw [h.now]; exact hm
  have hr1 : d.refused = 1 := by rw [h.refused]; omega
  have e : d.write m s = (42, { d with refused := 0 }) := by
    simp only [DevS.write]
    rw [if_pos hn, if_pos hs, if_neg (by rw [hd]; simp), if_pos hr1]
  rw [e]
  exact ⟨rfl, h.armed, h.left, h.ops, by show (0 : Int) = _; omega, h.le, Nat.le_succ_of_le h.lei, Nat.succ_le_succ h.lew, h.now, Nat.le_succ_of_le h.held⟩

theorem write_fine {d : DevS} {k r ok writes i : Nat} (h : Inv d k r ok writes i) (hi : i ≤ 1000) (hk : ok < k) (hr : writes + 1 ≠ r) (m : Int) (hm : 0 ≤ m ∧ m < 8) (s : ByteArray) (hs : s.size = 512) :
    (d.write m s).1 = 0 ∧ Inv (d.write m s).2 k r (ok + 1) (writes + 1) (i + 1) := by
  have hd := h.down
  rw [decide_eq_false (by omega)] at hd
  have hn : (0 ≤ m ∧ m < (d.now.length : Int)) := by rw [h.now]; exact hm
  have hr1 : ¬ d.refused = 1 := by rw [h.refused]; omega
  have e : d.write m s = (0, DevS.store { d with refused := if 0 < d.refused then d.refused - 1 else d.refused } m s) := by
    simp only [DevS.write]
    rw [if_pos hn, if_pos hs, if_neg (by rw [hd]; simp), if_neg hr1]
  rw [e]
  have h1 := h.lei
  refine ⟨rfl, h.armed, ?_, ?_, ?_, hk, Nat.succ_le_succ h.lei, Nat.succ_le_succ h.lew, ?_, ?_⟩
  · simp only [DevS.store, DevS.did, h.armed, if_true, h.left]; omega
  · simp only [DevS.store, DevS.did, h.ops, wrap64]; omega
  · simp only [DevS.store, DevS.did, h.refused]
    split <;> omega
  · simpa [DevS.store, DevS.did] using h.now
  · simpa [DevS.store, DevS.did] using h.held

theorem flush_down {d : DevS} {k r ok writes i : Nat} (h : Inv d k r ok writes i) (hk : k ≤ ok) : d.flush = (41, d) := by
  have hd := h.down
  rw [decide_eq_true hk] at hd
  simp only [DevS.flush]
  rw [if_pos hd]

theorem flush_fine {d : DevS} {k r ok writes i : Nat} (h : Inv d k r ok writes i) (hi : i ≤ 1000) (hk : ok < k) : d.flush.1 = 0 ∧ Inv d.flush.2 k r (ok + 1) writes (i + 1) := by
  have hd := h.down
  rw [decide_eq_false (by omega)] at hd
  have e : d.flush = (0, DevS.did { d with safe := d.held.foldl DevS.put d.safe, held := [] }) := by
    simp only [DevS.flush]
    rw [if_neg (by rw [hd]; simp)]
  rw [e]
  have h1 := h.lei
  refine ⟨rfl, h.armed, ?_, ?_, h.refused, hk, Nat.succ_le_succ h.lei, Nat.le_succ_of_le h.lew, h.now, by simp [DevS.did]⟩
  · simp only [DevS.did, h.armed, if_true, h.left]; omega
  · simp only [DevS.did, h.ops, wrap64]; omega

theorem read_up {d : DevS} {k r ok writes i : Nat} (h : Inv d k r ok writes i) (hk : ok < k) : d.read 0 = (d.now.getD 0 ByteArray.empty, 0) := by
  have hd := h.down
  rw [decide_eq_false (by omega)] at hd
  simp only [DevS.read, h.now, hd]
  rfl
theorem read_dn {d : DevS} {k r ok writes i : Nat} (h : Inv d k r ok writes i) (hk : k ≤ ok) : d.read 0 = (ByteArray.empty, 41) := by
  have hd := h.down
  rw [decide_eq_true hk] at hd
  simp only [DevS.read, h.now, hd]
  rfl
theorem crashed_fine {d : DevS} {k r ok writes i : Nat} (h : Inv d k r ok writes i) : (d.crash []).down = false ∧ ((d.crash []).write 0 (blk 1)).1 = 0 := by
  have hn : (d.crash []).now.length = 8 := by simp [DevS.crash, backAll_length, h.now]
  have hd : (d.crash []).down = false := by simp [DevS.down, DevS.crash]
  refine ⟨hd, ?_⟩
  simp only [DevS.write]
  rw [if_pos (by rw [hn]; omega), if_pos (blk_size _), if_neg (by rw [hd]; simp), if_neg (by simp [DevS.crash])]

/-- How memory stands at the head of a round. -/
def LoopAt (w : World) (b k r : Nat) (ok writes i : Nat) (W : World) : Prop :=
  ∃ d, Sep w W [devRes b d] ∧ Inv d k r ok writes i

/-- What the statement 'f = d.Write(..)' leaves. -/
def Wrote (w : World) (b : Nat) (d : DevS) (m : Int) (s : ByteArray) (v : Value) (W : World) : Prop := v = .int .i64 (d.write m s).1 ∧ Sep w W [devRes b (d.write m s).2]

set_option maxRecDepth 100000 in
set_option maxHeartbeats 2000000 in
theorem walk (n refuse : Int) (p : Option Addr) (l : List StepD) (q : Nat) (w : World) (hn : inI64 n) (hr : inI64 refuse) (hl : ((l.length : Nat) : Int) ≤ 9223372036854775807) (hst : StepsAt w p l) :
    Calls Try.prog 5 #[.int .i64 n, .int .i64 refuse, .slice p l.length q] w fun e w' => e = .returned (.bool true) ∧ Only [] w w' := by
  have hnew := sep_new (Sep.nil w) 8 (by omega) (by omega)
  obtain ⟨hn1, hn2⟩ := hn
  obtain ⟨hr1, hr2⟩ := hr
  have HST := Lib.hid hst; clear hst
  go_enter Try.func5, Try.ntmps5
  go_wp2_with fail
  refine hnew.mono ?_
  rintro e w1 ⟨b, rfl, hs1⟩
  have HS1 := Lib.hid hs1; clear hs1 hnew
  obtain ⟨k, hk⟩ : ∃ k : Nat, n % 20 = (k : Int) := ⟨(n % 20).toNat, by omega⟩
  obtain ⟨r, hr⟩ : ∃ r : Nat, refuse % 12 = (r : Int) := ⟨(refuse % 12).toNat, by omega⟩
  have hk20 : k < 20 := by omega
  have hr12 : r < 12 := by omega
  have HK := Lib.hid hk; clear hk
  have HR := Lib.hid hr; clear hr
  go_wp2_with fail
  refine (mod_any n 20 _ (by omega) (by omega) hn1 hn2).mono ?_
  rintro e w1 ⟨rfl, rfl⟩
  rw [HK.out]
  go_wp2_with fail
  refine (mod_any refuse 12 _ (by omega) (by omega) hr1 hr2).mono ?_
  rintro e w1 ⟨rfl, rfl⟩
  rw [HR.out]
  go_wp2_with fail
  refine (sep_arm k HS1.out (by omega) (by omega)).mono ?_
  rintro e w2 ⟨rfl, hs2⟩
  have HS2 := Lib.hid hs2; clear hs2
  go_wp2_with fail
  refine (sep_refuse r HS2.out (by omega)).mono ?_
  rintro e w3 ⟨rfl, hs3⟩
  have hL : LoopAt w b k r 0 0 0 w3 := by
    refine ⟨_, hs3, ⟨?_, ?_, ?_, ?_, Nat.zero_le _, Nat.le_refl _, Nat.le_refl _, ?_, ?_⟩⟩
    · simp [DevS.refuse, DevS.arm]
    · simp [DevS.refuse, DevS.arm]
    · simp [DevS.refuse, DevS.arm, DevS.new]
    · simp [DevS.refuse, DevS.arm]
    · simp [DevS.refuse, DevS.arm, DevS.new]
    · simp [DevS.refuse, DevS.arm, DevS.new]
  have HL := Lib.hid hL; clear hL hs3 HS1 HS2
  go_wp2_with fail
  go_loopw [11, 12, 13] (fun s11 s12 s13 wr => ∃ ok writes i : Nat, i ≤ l.length ∧ i ≤ 60 ∧ s11 = .int .i64 ok ∧ s12 = .int .i64 writes ∧ s13 = .int .i64 i ∧ LoopAt w b k r ok writes i wr) (fun _ _ s13 _ => l.length - (intOf s13).toNat)
  case atStart => exact ⟨0, 0, 0, Nat.zero_le _, Nat.zero_le _, rfl, rfl, rfl, HL.out⟩
  case round =>
    obtain ⟨ok, writes, i, hi1, hi2, rfl, rfl, rfl, d, hs, hinv⟩ := hrel
    have HS := Lib.hid hs; clear hs
    have HI := Lib.hid hinv; clear hinv
    have hlei := HI.out.lei
    have hlew := HI.out.lew
    have hlek := HI.out.le
    by_cases hlt : i < l.length ∧ i < 60
    · obtain ⟨hlt1, hlt2⟩ := hlt
      obtain ⟨b', o, hp, hb, r1, r2, r3, r4, r5, c0, c1, c2, c3, c4, ci⟩ := HST.out i l[i] (List.getElem?_eq_getElem hlt1)
      subst hp
      generalize l[i] = x at *
      clear c2 c4 ci r4 r5 r3
      obtain ⟨r2a, r2b⟩ := r2
      have hkeep : ∀ W', Only [] w W' → W'.cell? ⟨b', o + i * 5 + 1, none⟩ = some (.int .i64 x.place) ∧ W'.cell? ⟨b', o + i * 5 + 3, none⟩ = some (.int .u8 (x.fill.toNat : Int)) :=
        fun W' ho => ⟨by rw [ho.cell hb (by simp)]; exact c1, by rw [ho.cell hb (by simp)]; exact c3⟩
      have d0 : wr.cell? ⟨b', o + i * 5, none⟩ = some (.int .i64 x.kind) := by rw [HS.out.old.cell hb (by simp)]; exact c0
      have d1 := (hkeep wr HS.out.old).1
      have d3 := (hkeep wr HS.out.old).2
      have HKP := Lib.hid hkeep; clear hkeep
      clear c0 c1 c3
      have hheld : d.held.length ≤ 1000000 := by have := HI.out.held; omega
      by_cases hkind : (x.kind.tmod 2 == 0) = true
      · go_wp2_with fail
        go_upto_region 13 with fail
        go_cut [14] (fun s14 wx => Wrote w b d (x.place % 8) (blk x.fill) s14 wx)
        case first =>
          go_region_held3 (fun w' => w'.cell? ⟨b', o + i * 5 + 1, none⟩ = some (.int .i64 x.place) ∧ w'.cell? ⟨b', o + i * 5 + 3, none⟩ = some (.int .u8 (x.fill.toNat : Int))) (first | exact ⟨d1, d3⟩ | exact HKP.out _ (by assumption))
            (first
              | (go_at_call 11; refine (mod_any x.place 8 _ (by omega) (by omega) r2a r2b).mono ?_; rintro e w' ⟨rfl, rfl⟩)
              | (go_at_call 12; refine (block_any x.fill _).mono ?_; rintro e w' ⟨rfl, ho⟩; have ho2 : Only [] wr w' := (Only.drew [] wr).trans ho (Within.refl _ _); have ho' := (HS.out.only ho2).old; clear ho)
              | (go_at_call 10; refine (sep_write (x.place % 8) (blk x.fill) (HS.out.only (by assumption)) hheld).mono ?_; rintro e w' ⟨rfl, hs'⟩; have ho' := hs'.old))
          all_goals
            go_wp2_with fail
            go_meet
            exact ⟨rfl, by assumption⟩
        case rest =>
          obtain ⟨hv, hs'⟩ := hcut
          have hm : 0 ≤ x.place % 8 ∧ x.place % 8 < 8 := by omega
          clear d0 d1 d3 HKP hkind
          by_cases hok : ok < k
          · by_cases hwr : writes + 1 = r
            · have E := write_broken HI.out hok hwr (x.place % 8) hm (blk x.fill) (blk_size _)
              rw [E.1] at hv
              subst hv
              have hwr' : ((writes : Int) + 1 == (r : Int)) = true := by rw [beq_iff_eq]; omega
              have HR : Hid (LoopAt w b k r ok (writes + 1) (i + 1) wc) := ⟨_, hs', E.2⟩
              clear hs' E hwr hm
              go_wp2_with fail
              go_roundw
              case rel => exact ⟨ok, writes + 1, i + 1, by omega, by omega, rfl, by go_num, by go_num, HR.out⟩
              case measure => simp [intOf]; omega
            · have E := write_fine HI.out (by omega) hok hwr (x.place % 8) hm (blk x.fill) (blk_size _)
              rw [E.1] at hv
              subst hv
              have hwr' : ((writes : Int) + 1 == (r : Int)) = false := by rw [beq_eq_false_iff_ne]; omega
              have HR : Hid (LoopAt w b k r (ok + 1) (writes + 1) (i + 1) wc) := ⟨_, hs', E.2⟩
              clear hs' E hwr hm
              go_wp2_with fail
              go_roundw
              case rel => exact ⟨ok + 1, writes + 1, i + 1, by omega, by omega, by go_num, by go_num, by go_num, HR.out⟩
              case measure => simp [intOf]; omega
          · have E := write_down HI.out (by omega) (x.place % 8) hm (blk x.fill) (blk_size _)
            rw [E] at hv hs'
            subst hv
            have HR : Hid (LoopAt w b k r ok writes (i + 1) wc) := ⟨_, hs', HI.out.next⟩
            clear hs' E hm
            go_wp2_with fail
            go_roundw
            case rel => exact ⟨ok, writes, i + 1, by omega, by omega, rfl, rfl, by go_num, HR.out⟩
            case measure => simp [intOf]; omega
      · have hkind' : (x.kind.tmod 2 == 0) = false := by simpa using hkind
        clear hkind
        go_wp2_with fail
        refine (sep_flush HS.out hheld).mono ?_
        intro e w4 he
        obtain ⟨he, hs'⟩ := he
        clear d0 d1 d3 HKP hkind'
        by_cases hok : ok < k
        · have E := flush_fine HI.out (by omega) hok
          rw [E.1] at he
          subst he
          have HR : Hid (LoopAt w b k r (ok + 1) writes (i + 1) w4) := ⟨_, hs', E.2⟩
          clear hs' E
          go_wp2_with fail
          go_roundw
          case rel => exact ⟨ok + 1, writes, i + 1, by omega, by omega, by go_num, rfl, by go_num, HR.out⟩
          case measure => simp [intOf]; omega
        · have E := flush_down HI.out (by omega)
          rw [E] at he hs'
          subst he
          have HR : Hid (LoopAt w b k r ok writes (i + 1) w4) := ⟨_, hs', HI.out.next⟩
          clear hs' E
          go_wp2_with fail
          go_roundw
          case rel => exact ⟨ok, writes, i + 1, by omega, by omega, rfl, rfl, by go_num, HR.out⟩
          case measure => simp [intOf]; omega
    · have hguard : (i < l.length ∧ ¬ i < 60) ∨ ¬ i < l.length := by omega
      have hheld : d.held.length ≤ 1000000 := by have := HI.out.held; omega
      have hdn := HI.out.down
      have hcr := crashed_fine HI.out
      have hcl : (d.crash []).held.length ≤ 1000000 := by simp [DevS.crash]
      by_cases hok : ok < k
      · rw [decide_eq_false (by omega)] at hdn
        have hrd := read_up HI.out hok
        have hr2 : ((d.read 0).2 == 41) = false := by rw [hrd]; rfl
        have hop := HI.out.ops
        have HRD := Lib.hid hrd; clear hrd
        have HDN := Lib.hid hdn; clear hdn
        have HOP := Lib.hid hop; clear hop
        have HCR := Lib.hid hcr; clear hcr
        rcases hguard with ⟨g1, g2⟩ | g1
        all_goals
          go_wp2_with fail
          refine (sep_read 0 HS.out).mono ?_
          rintro e w4 ⟨rfl, rfl⟩
          rw [HRD.out]
          go_wp2_with fail
          refine (sep_down HS.out).mono ?_
          rintro e w4 ⟨rfl, rfl⟩
          rw [HDN.out]
          go_wp2_with fail
          refine (sep_down HS.out).mono ?_
          rintro e w4 ⟨rfl, rfl⟩
          rw [HDN.out]
          go_wp2_with fail
          refine (sep_ops HS.out).mono ?_
          rintro e w4 ⟨rfl, rfl⟩
          rw [HOP.out]
          go_wp2_with fail
          refine (sep_crash_nil HS.out hheld).mono ?_
          rintro e w5 ⟨rfl, hs5⟩
          have HS5 := Lib.hid hs5; clear hs5
          go_wp2_with fail
          refine (sep_down HS5.out).mono ?_
          rintro e w5 ⟨rfl, rfl⟩
          rw [HCR.out.1]
          go_wp2_with fail
          refine (block_any 1 _).mono ?_
          rintro e w6 ⟨rfl, ho6⟩
          have HS6 := Lib.hid (HS5.out.only ho6); clear ho6
          go_wp2_with fail
          refine (sep_write 0 (blk 1) HS6.out hcl).mono ?_
          rw [HCR.out.2]
          rintro e w7 ⟨rfl, hs7⟩
          have HO7 := Lib.hid hs7.old; clear hs7
          go_wp2_with fail
          refine (wakes_any _).mono ?_
          rintro e w8 ⟨rfl, ho8⟩
          have HO8 := Lib.hid (HO7.out.trans ho8 (Within.nil _ _)); clear ho8
          go_wp2_with fail
          go_ret
          exact ⟨rfl, HO8.out⟩
      · rw [decide_eq_true (by omega)] at hdn
        have hrd := read_dn HI.out (by omega)
        have hop := HI.out.ops
        have HRD := Lib.hid hrd; clear hrd
        have HDN := Lib.hid hdn; clear hdn
        have HOP := Lib.hid hop; clear hop
        have HCR := Lib.hid hcr; clear hcr
        rcases hguard with ⟨g1, g2⟩ | g1
        all_goals
          go_wp2_with fail
          refine (sep_read 0 HS.out).mono ?_
          rintro e w4 ⟨rfl, rfl⟩
          rw [HRD.out]
          go_wp2_with fail
          refine (sep_down HS.out).mono ?_
          rintro e w4 ⟨rfl, rfl⟩
          rw [HDN.out]
          go_wp2_with fail
          refine (sep_down HS.out).mono ?_
          rintro e w4 ⟨rfl, rfl⟩
          rw [HDN.out]
          go_wp2_with fail
          refine (sep_ops HS.out).mono ?_
          rintro e w4 ⟨rfl, rfl⟩
          rw [HOP.out]
          go_wp2_with fail
          refine (sep_crash_nil HS.out hheld).mono ?_
          rintro e w5 ⟨rfl, hs5⟩
          have HS5 := Lib.hid hs5; clear hs5
          go_wp2_with fail
          refine (sep_down HS5.out).mono ?_
          rintro e w5 ⟨rfl, rfl⟩
          rw [HCR.out.1]
          go_wp2_with fail
          refine (block_any 1 _).mono ?_
          rintro e w6 ⟨rfl, ho6⟩
          have HS6 := Lib.hid (HS5.out.only ho6); clear ho6
          go_wp2_with fail
          refine (sep_write 0 (blk 1) HS6.out hcl).mono ?_
          rw [HCR.out.2]
          rintro e w7 ⟨rfl, hs7⟩
          have HO7 := Lib.hid hs7.old; clear hs7
          go_wp2_with fail
          refine (wakes_any _).mono ?_
          rintro e w8 ⟨rfl, ho8⟩
          have HO8 := Lib.hid (HO7.out.trans ho8 (Within.nil _ _)); clear ho8
          go_wp2_with fail
          go_ret
          exact ⟨rfl, HO8.out⟩

theorem own : ownKnob Try.prog.godebug = none := by kernel_rfl
theorem laidOut : laidOutB Try.prog = true := by kernel_rfl

set_option maxRecDepth 100000 in
theorem lifted (os : Os) (started : os.Started) (H : Type) (enc : TypeId × Value → H) :
    ReturnsInHanded {} Try.checked os 5 .any (Rows.devArmsSpec.pre6 enc Try.prog Try.f5 Rows.devArmsRow.domain false) (Rows.devArmsSpec.post enc Try.prog Try.f5 false true false false) := by
  refine returnsInHanded_of_change (C := Try.checked) own started (by kernel_rfl) Try.func5
    (ChangeSpec.witness6 (enc := enc) (C := Try.checked) false ⟨#[], #[.int .i64 0, .int .i64 0, .slice none 0 0], []⟩ 8 (by kernel_rfl) (by kernel_rfl) (by kernel_rfl) (by kernel_rfl)) ?_
  intro W base args ds gs before hval0 hW hcnd _
  have hval : ∀ (j : Nat) t v, Try.f5.params[j]? = some t → args[j]? = some v → Value.okWide Try.prog W .any base t v := hval0
  have hW' := hW
  obtain ⟨pp, pq, hA0, hV, rfl, hfz, hnd⟩ := hW
  have hA : DataW.TrodAll enc Try.prog W 0 (fun _ => true) true Try.f5.params.toList args.toList ds pp := hA0
  rw [Try.params5] at hA hval
  obtain ⟨v0, vs0, d0, ds0, p0, q0, hargs, rfl, rfl, h0, r0⟩ := trodAll_cons hA
  obtain ⟨v1, vs1, d1, ds1, p1, q1, rfl, rfl, rfl, h1, r1⟩ := trodAll_cons r0
  obtain ⟨v2, vs2, d2, ds2, p2, q2, rfl, rfl, rfl, h2, r2⟩ := trodAll_cons r1
  obtain ⟨rfl, rfl, rfl⟩ := trodAll_nil r2
  obtain rfl : args = #[v0, v1, v2] := by cases args; simp_all
  obtain ⟨rfl, rfl⟩ := trodVars_none hV
  obtain ⟨a0, rfl, rfl, rfl, w0⟩ := open_int Try.underlying3 (hval 0 3 v0 rfl rfl) h0
  obtain ⟨a1, rfl, rfl, rfl, w1⟩ := open_int Try.underlying3 (hval 1 3 v1 rfl rfl) h1
  obtain ⟨p, l, q, rfl, hl, hst⟩ : ∃ p l q, v2 = .slice p (List.length l) q ∧ ((List.length l : Nat) : Int) ≤ 9223372036854775807 ∧ StepsAt W p l := by
    obtain ⟨a, len, cap, rfl⟩ := okWide_slice Try.underlying22 (hval 2 22 v2 rfl rfl)
    obtain ⟨fuel, hf⟩ := h2
    exact open_steps_at hf
  clear hA0 hval0
  simp only [List.append_nil, List.nil_append] at hW'
  refine (walk a0 a1 p l q W (bounds_i64 w0) (bounds_i64 w1) hl hst).mono fun e W' ⟨he, hg⟩ => ?_
  subst he
  have hb : Below W.heap.size W W' := hg.below (Nat.le_refl _) (by simp)
  have hlt : ∀ x ∈ p2, x.block < W.heap.size := fun x hx => hW'.lt x hx
  exact ⟨_, rfl, _, _, _, [], p2, [], hW', trodAll_cons_mk (shut_bool Try.underlying4 _) trodAll_mk0, trodAll_cons_mk (shut_int Try.underlying3 w0) (trodAll_cons_mk (shut_int Try.underlying3 w1) (by have := trodAll_cons_mk (Below.trod laidOut (by kernel_rfl) (of_decide_eq_true (by kernel_rfl)) h2 hb hlt) trodAll_mk0; rwa [List.append_nil] at this)), rfl, hb.frame _, fun h => by cases h⟩

theorem over : Rows.devArmsRow.holds Try.pinned (OpenSpec.ofChange Rows.devArmsSpec) :=
  OpenClaim.holds_of_wide 5 Try.f5 rfl rfl rfl rfl rfl rfl rfl ⟨rfl, rfl, rfl, rfl, rfl⟩ rfl rfl rfl rfl rfl (by kernel_rfl) Try.func5 (by kernel_rfl)
    (of_decide_eq_true (by kernel_rfl)) (by unfold Func.isWrapper; first | (rw [if_pos (by decide +kernel)]; kernel_rfl) | (rw [if_neg (by decide +kernel)]; exact ⟨rfl, rfl⟩))
    (fun os started H enc _ => lifted os started H enc)

theorem proved : Rows.DevArmsSaid := over
#print axioms proved
end Go.Proofs.Ytaipjialomjhhaa.devArms
