/-
  What is proved here: the statement PageApart: a row that is not touched stays, whatever happens to the others; for every input.
  No condition.
-/
import Derived.Test.YtbikgahobkbpaaaPageS
namespace Go.Proofs.Ytbikgahobkbpaaa.pageApart
open Go.ChangeShapes Go.WideShapes Go.ChangeAt Go.RowKit Go.Proofs.Ytbikgahobkbpaaa
set_option linter.unusedVariables false

/-- The page's text at the head of a round: a page whose first row is the one. -/
def PageWith (row : ByteArray) (s : Value) : Prop := ∃ lr, s = .string (enc lr) ∧ Valid lr ∧ lr[0]? = some ⟨row, true⟩

/-- What a call leaves: an error, or such a page. -/
def CallLeft (row : ByteArray) (s10 s11 : Value) : Prop := ∃ (s : ByteArray) (e : Int), s10 = .string s ∧ s11 = .int .i64 e ∧ (e = 0 → PageWith row (.string s))

theorem insert_left {lr : List RowD} {row s : ByteArray} (hv : Valid lr) (h0 : lr[0]? = some ⟨row, true⟩) (h : (insertS (enc lr) s).2.2 = 0) : PageWith row (.string (insertS (enc lr) s).1) := by
  rw [insertS_some (rowsM_enc hv)] at h ⊢
  by_cases e : (putS lr (lowest lr) s).2 = 0
  · rw [if_pos e]
    have hl := lowest_le lr
    obtain ⟨h1, h2⟩ := hv.put (k := lowest lr) (s := s) (by omega) e
    exact ⟨_, by rw [h2], h1, putL_zero h0 (lowest_pos h0 rfl)⟩
  · rw [if_neg e] at h
    exact absurd h e

theorem put_left {lr : List RowD} {row s : ByteArray} {k : Int} (hv : Valid lr) (h0 : lr[0]? = some ⟨row, true⟩) (hk : k ≠ 0) (h : (putP (enc lr) k s).2 = 0) : PageWith row (.string (putP (enc lr) k s).1) := by
  rw [putP_some (rowsM_enc hv)] at h ⊢
  by_cases e : has lr k = true
  · rw [if_pos e] at h ⊢
    obtain ⟨i, rfl, hi, _⟩ := has_true e
    rw [Int.toNat_natCast] at h ⊢
    obtain ⟨h1, h2⟩ := hv.put (k := i) (s := s) (.inr hi) h
    exact ⟨_, by rw [h2], h1, putL_zero h0 (by omega)⟩
  · rw [if_neg e] at h
    cases h

theorem del_left {lr : List RowD} {row : ByteArray} {k : Int} (hv : Valid lr) (h0 : lr[0]? = some ⟨row, true⟩) (hk : k ≠ 0) (h : (delP (enc lr) k).2 = 0) : PageWith row (.string (delP (enc lr) k).1) := by
  rw [delP_some (rowsM_enc hv)] at h ⊢
  by_cases e : has lr k = true
  · rw [if_pos e]
    obtain ⟨i, rfl, hi, _⟩ := has_true e
    rw [Int.toNat_natCast]
    exact ⟨_, rfl, hv.del hi, delL_zero h0 rfl (by omega)⟩
  · rw [if_neg e] at h
    cases h

set_option maxRecDepth 100000 in
set_option maxHeartbeats 2000000 in
theorem walk (row : ByteArray) (p : Option Addr) (l : List StepD) (q : Nat) (w : World) (_hr : row.size ≤ maxLen) (hl : ((l.length : Nat) : Int) ≤ 9223372036854775807) (hst : StepsAt w p l) :
    Calls Try.prog 4 #[.string row, .slice p l.length q] w fun e w' => e = .returned (.bool true) ∧ Only [] w w' := by
  have HST := Lib.hid hst; clear hst
  cases hf : fairB l with
  | false =>
    go_enter Try.func4, Try.ntmps4
    go_wp2_with fail
    refine (fair_any p l q _ hl HST.out).mono ?_
    rintro e w1 ⟨rfl, rfl⟩
    rw [hf]
    clear hf
    go_wp2_with fail
    refine (wakes_any _).mono ?_
    rintro e w2 ⟨rfl, ho⟩
    have HO := Lib.hid ho; clear ho
    go_wp2_with fail
    go_ret
    exact ⟨rfl, HO.out⟩
  | true =>
    obtain ⟨hlen, hrows⟩ := fair_true hf
    have HROWS := Lib.hid hrows; clear hrows
    by_cases hbig : 400 < row.size
    · go_enter Try.func4, Try.ntmps4
      go_wp2_with fail
      refine (fair_any p l q _ hl HST.out).mono ?_
      rintro e w1 ⟨rfl, rfl⟩
      rw [hf]
      clear hf
      go_wp2_with fail
      refine (wakes_any _).mono ?_
      rintro e w2 ⟨rfl, ho⟩
      have HO := Lib.hid ho; clear ho
      go_wp2_with fail
      go_ret
      exact ⟨rfl, HO.out⟩
    · have hfirst := insert_first (s := row) (by omega)
      have hE : (enc []).size = 512 := enc_size (by decide)
      go_enter Try.func4, Try.ntmps4
      go_wp2_with fail
      refine (fair_any p l q _ hl HST.out).mono ?_
      rintro e w1 ⟨rfl, rfl⟩
      rw [hf]
      clear hf
      go_wp2_with fail
      refine (empty_any _).mono ?_
      rintro e w2 ⟨rfl, ho⟩
      have O2 := Lib.hid ho; clear ho
      go_wp2_with fail
      refine (insert_any (enc []) row _ (by omega) (by omega)).mono ?_
      rintro e w3 ⟨rfl, ho⟩
      have O3 := Lib.hid (O2.out.trans ho (Within.nil _ _)); clear ho
      rw [hfirst.1]
      have HV : Hid (PageWith row (.string (enc [⟨row, true⟩]))) := ⟨_, rfl, hfirst.2, rfl⟩
      clear hfirst
      go_wp2_with fail
      go_loopw [5, 8] (fun s5 s8 wr => ∃ i : Nat, i ≤ l.length ∧ s8 = .int .i64 i ∧ PageWith row s5 ∧ Only [] w wr) (fun _ s8 _ => l.length - (intOf s8).toNat)
      case atStart => exact ⟨0, Nat.zero_le _, rfl, HV.out, O3.out⟩
      case round =>
        obtain ⟨i, hi, rfl, ⟨lr, rfl, hv, h0⟩, ho⟩ := hrel
        have HO := Lib.hid ho; clear ho HV O3
        have HVL := Lib.hid hv; clear hv
        have H0 := Lib.hid h0; clear h0
        have hz : (enc lr).size = 512 := enc_size HVL.out.took
        by_cases hlt : i < l.length
        · obtain ⟨x, hx⟩ : ∃ x, l[i]? = some x := ⟨_, List.getElem?_eq_getElem hlt⟩
          obtain ⟨b, o, rfl, hb, hk1, hk2, c0, c1, c2⟩ := (HST.out.only HO.out) i x hx
          have hxr := HROWS.out x (List.mem_of_getElem? hx)
          clear hx
          obtain ⟨kind, slot, xr⟩ := x
          simp only at hk1 hk2 c0 c1 c2 hxr
          obtain ⟨hk1a, hk1b⟩ := hk1
          obtain ⟨hk2a, hk2b⟩ := hk2
          have HN : Hid (Only [] w (wr.alloc (.cells #[.int .i64 kind, .int .i64 slot, .string xr] 33))) := HO.out.trans (Only.alloc _ _ _) (Within.nil _ _)
          by_cases hskip : slot = 0 ∧ kind ≠ 0
          · obtain ⟨hs0, hk0⟩ := hskip
            subst hs0
            have hk0' : (kind != 0) = true := by rw [bne_iff_ne]; exact hk0
            go_wp2_with fail
            go_roundw
            case rel => exact ⟨i + 1, by omega, by go_num, ⟨lr, rfl, HVL.out, H0.out⟩, HN.out⟩
            case measure => simp [intOf]; omega
          · have hsk : slot ≠ 0 ∨ kind = 0 := by
              by_cases h : slot = 0
              · right; exact Classical.byContradiction fun h2 => hskip ⟨h, h2⟩
              · left; exact h
            clear hskip
            obtain ⟨g, hg⟩ : ∃ g, g = wr.heap.size := ⟨_, rfl⟩
            have hblk : (wr.alloc (.cells #[.int .i64 kind, .int .i64 slot, .string xr] 33)).heap[g]? = some (.cells #[.int .i64 kind, .int .i64 slot, .string xr] 33 (0, 0)) := by rw [hg]; exact heap_alloc_self
            go_upto_region 10 with fail
            rw [← hg]
            clear c0 c1 c2 hg
            generalize (wr.alloc (.cells #[.int .i64 kind, .int .i64 slot, .string xr] 33)) = V at *
            have e0 : V.cell? ⟨g, 0, none⟩ = some (.int .i64 kind) := cell_of_block hblk 0 rfl
            have e1 : V.cell? ⟨g, 1, none⟩ = some (.int .i64 slot) := cell_of_block hblk 1 rfl
            have e2 : V.cell? ⟨g, 2, none⟩ = some (.string xr) := cell_of_block hblk 2 rfl
            clear hblk
            go_cut [53] (fun s53 wx => V = wx ∧ s53 = .bool false)
            case first =>
              by_cases hs0 : slot = 0
              · subst hs0
                have hk0 : kind = 0 := by omega
                subst hk0
                go_wp2_with fail
                go_meet
                exact ⟨rfl, rfl⟩
              · have hs1 : (slot == 0) = false := by rw [beq_eq_false_iff_ne]; exact hs0
                go_wp2_with fail
                go_meet
                exact ⟨rfl, rfl⟩
            case rest =>
              obtain ⟨rfl, rfl⟩ := hcut
              go_upto_block 2 with fail
              go_cut [10, 11] (fun s10 s11 wx => CallLeft row s10 s11 ∧ Only [] w wx)
              case first =>
                by_cases k0 : (kind == 0) = true
                · go_wp2_with fail
                  refine (insert_any (enc lr) xr _ (by omega) (by omega)).mono ?_
                  rintro e w9 ⟨rfl, ho9⟩
                  have HO9 := Lib.hid (HN.out.trans ho9 (Within.nil _ _)); clear ho9
                  have HC : Hid (CallLeft row (.string (insertS (enc lr) xr).1) (.int .i64 (insertS (enc lr) xr).2.2)) := ⟨_, _, rfl, rfl, fun h => insert_left HVL.out H0.out h⟩
                  go_wp2_with fail
                  go_meet
                  exact ⟨HC.out, HO9.out⟩
                · have k0' : (kind == 0) = false := by simpa using k0
                  have hs1 : slot ≠ 0 := by
                    rcases hsk with h | h
                    · exact h
                    · subst h; simp at k0
                  clear k0
                  by_cases k1 : (kind == 1) = true
                  · go_wp2_with fail
                    refine (putp_any (enc lr) slot xr _ (by omega) (by omega)).mono ?_
                    rintro e w9 ⟨rfl, ho9⟩
                    have HO9 := Lib.hid (HN.out.trans ho9 (Within.nil _ _)); clear ho9
                    have HC : Hid (CallLeft row (.string (putP (enc lr) slot xr).1) (.int .i64 (putP (enc lr) slot xr).2)) := ⟨_, _, rfl, rfl, fun h => put_left HVL.out H0.out hs1 h⟩
                    go_wp2_with fail
                    go_meet
                    exact ⟨HC.out, HO9.out⟩
                  · have k1' : (kind == 1) = false := by simpa using k1
                    clear k1
                    by_cases k2 : (kind == 2) = true
                    · go_wp2_with fail
                      refine (delp_any (enc lr) slot _ (by omega)).mono ?_
                      rintro e w9 ⟨rfl, ho9⟩
                      have HO9 := Lib.hid (HN.out.trans ho9 (Within.nil _ _)); clear ho9
                      have HC : Hid (CallLeft row (.string (delP (enc lr) slot).1) (.int .i64 (delP (enc lr) slot).2)) := ⟨_, _, rfl, rfl, fun h => del_left HVL.out H0.out hs1 h⟩
                      go_wp2_with fail
                      go_meet
                      exact ⟨HC.out, HO9.out⟩
                    · have k2' : (kind == 2) = false := by simpa using k2
                      clear k2
                      have HC : Hid (CallLeft row (.string (enc lr)) (.int .i64 0)) := ⟨_, _, rfl, rfl, fun _ => ⟨lr, rfl, HVL.out, H0.out⟩⟩
                      go_wp2_with fail
                      go_meet
                      exact ⟨HC.out, HN.out⟩
              case rest =>
                obtain ⟨⟨sx, ex, rfl, rfl, hleft⟩, ho2⟩ := hcut
                have HO2 := Lib.hid ho2; clear ho2 HN
                have HLEFT := Lib.hid hleft; clear hleft
                clear e0 e1 e2
                go_upto_if 88 with fail
                go_cut [5] (fun s5 wx => PageWith row s5 ∧ Only [] w wx)
                case first =>
                  by_cases he : ex = 0
                  · subst he
                    have HP := Lib.hid (HLEFT.out rfl)
                    go_wp2_with fail
                    go_meet
                    exact ⟨HP.out, HO2.out⟩
                  · have he' : (ex == 0) = false := by rw [beq_eq_false_iff_ne]; exact he
                    go_wp2_with fail
                    go_meet
                    exact ⟨⟨lr, rfl, HVL.out, H0.out⟩, HO2.out⟩
                case rest =>
                  obtain ⟨⟨lq, rfl, hvq, hq0⟩, ho3⟩ := hcut
                  have HO3 := Lib.hid ho3; clear ho3 HO2
                  have HP := Lib.hid (show PageWith row (.string (enc lq)) from ⟨lq, rfl, hvq, hq0⟩)
                  have HG : Hid (getP (enc lq) 0 = (row, 0)) := by
                    show _ = _
                    have hh : has lq 0 = true := has_of (v := 0) hq0 rfl
                    rw [getP_some (rowsM_enc hvq), if_pos hh]
                    simp [List.getD_eq_getElem?_getD, hq0]
                  have hsz : (enc lq).size = 512 := enc_size hvq.took
                  clear hvq hq0
                  have q2 : (row.toList == row.toList) = true := beq_self_eq_true _
                  go_wp2_with fail
                  refine (getp_any (enc lq) 0 _ (by omega)).mono ?_
                  rintro e w9 ⟨rfl, ho9⟩
                  have HO9 := Lib.hid (HO3.out.trans ho9 (Within.nil _ _)); clear ho9
                  rw [HG.out]
                  go_wp2_with fail
                  go_roundw
                  case rel => exact ⟨i + 1, by omega, by go_num, HP.out, HO9.out⟩
                  case measure => simp [intOf]; omega
        · go_wp2_with fail
          refine (wakes_any _).mono ?_
          rintro e w2 ⟨rfl, ho⟩
          have HO2 := Lib.hid (HO.out.trans ho (Within.nil _ _)); clear ho
          go_wp2_with fail
          go_ret
          exact ⟨rfl, HO2.out⟩

theorem own : ownKnob Try.prog.godebug = none := by kernel_rfl
theorem laidOut : laidOutB Try.prog = true := by kernel_rfl

set_option maxRecDepth 100000 in
theorem lifted (os : Os) (started : os.Started) (H : Type) (enc : TypeId × Value → H) :
    ReturnsInHanded {} Try.checked os 4 .any (Rows.pageApartSpec.pre6 enc Try.prog Try.f4 Rows.pageApartRow.domain false) (Rows.pageApartSpec.post enc Try.prog Try.f4 false true false false) := by
  refine returnsInHanded_of_change (C := Try.checked) own started (by kernel_rfl) Try.func4
    (ChangeSpec.witness6 (enc := enc) (C := Try.checked) false ⟨#[], #[.string ⟨#[]⟩, .slice none 0 0], []⟩ 8 (by kernel_rfl) (by kernel_rfl) (by kernel_rfl) (by kernel_rfl)) ?_
  intro W base args ds gs before hval0 hW hcnd _
  have hval : ∀ (j : Nat) t v, Try.f4.params[j]? = some t → args[j]? = some v → Value.okWide Try.prog W .any base t v := hval0
  have hW' := hW
  obtain ⟨pp, pq, hA0, hV, rfl, hfz, hnd⟩ := hW
  have hA : DataW.TrodAll enc Try.prog W 0 (fun _ => true) true Try.f4.params.toList args.toList ds pp := hA0
  rw [Try.params4] at hA hval
  obtain ⟨v0, vs0, d0, ds0, p0, q0, hargs, rfl, rfl, h0, r0⟩ := trodAll_cons hA
  obtain ⟨v1, vs1, d1, ds1, p1, q1, rfl, rfl, rfl, h1, r1⟩ := trodAll_cons r0
  obtain ⟨rfl, rfl, rfl⟩ := trodAll_nil r1
  obtain rfl : args = #[v0, v1] := by cases args; simp_all
  obtain ⟨rfl, rfl⟩ := trodVars_none hV
  obtain ⟨s0, rfl, rfl, rfl, w0⟩ := Go.ChangeMaps.open_string Try.underlying9 (hval 0 9 v0 rfl rfl) h0
  obtain ⟨sp1, sl1, sq1, rfl, hl1, hst1⟩ := open_steps (W := W) (v := v1) (by
    obtain ⟨a, len, cap, rfl⟩ := okWide_slice Try.underlying22 (hval 1 22 v1 rfl rfl)
    exact ⟨a, len, cap, rfl⟩) h1
  clear hA0 hval0
  simp only [List.append_nil] at hW'
  refine (walk s0 sp1 sl1 sq1 W w0 hl1 hst1).mono fun e W' ⟨he, hg⟩ => ?_
  subst he
  have hb : Below W.heap.size W W' := hg.below (Nat.le_refl _) (by simp)
  have hargs := (trodAll_cons_mk (Go.ChangeMaps.shut_string Try.underlying9 w0) (trodAll_cons_mk (Below.trod laidOut (by kernel_rfl) (of_decide_eq_true (by kernel_rfl)) h1 hb (fun x hx => hW'.lt x (by simp [hx]))) trodAll_mk0))
  simp only [List.append_nil] at hargs
  exact ⟨_, rfl, _, _, _, [], _, [], hW', trodAll_cons_mk (shut_bool Try.underlying4 _) trodAll_mk0, hargs, rfl, hb.frame _, fun h => by cases h⟩

theorem over : Rows.pageApartRow.holds Try.pinned (OpenSpec.ofChange Rows.pageApartSpec) :=
  OpenClaim.holds_of_wide 4 Try.f4 rfl rfl rfl rfl rfl rfl rfl ⟨rfl, rfl, rfl, rfl, rfl⟩ rfl rfl rfl rfl rfl (by kernel_rfl) Try.func4 (by kernel_rfl)
    (of_decide_eq_true (by kernel_rfl)) (by unfold Func.isWrapper; first | (rw [if_pos (by decide +kernel)]; kernel_rfl) | (rw [if_neg (by decide +kernel)]; exact ⟨rfl, rfl⟩))
    (fun os started H enc _ => lifted os started H enc)

theorem proved : Rows.PageApartSaid := over
#print axioms proved
end Go.Proofs.Ytbikgahobkbpaaa.pageApart
