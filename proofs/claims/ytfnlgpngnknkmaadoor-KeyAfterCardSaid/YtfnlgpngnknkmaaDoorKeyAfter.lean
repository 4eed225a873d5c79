/-
  What is proved here: the statement KeyAfter: what begins with a text stands from it on, below what is after it, and nothing else does; for every input.
  No condition beyond the row's own (two tables of unicode/utf8 and the longest index are as the library lays them; they are not read).
-/
import Derived.Test.YtfnlgpngnknkmaaDoorKyH
import Derived.Test.YtfnlgpngnknkmaaDoorTie
import Derived.Test.YtfnlgpngnknkmaaDoorCards
import Derived.LaidMore
import Derived.Lay
import Derived.SevenTiedAt
import Derived.Stop.Joined
namespace Go.Proofs.YtfnlgpngnknkmaaDoor.keyAfter
open Go.ChangeShapes Go.WideShapes Go.ChangeAt Go.RowKit Go.Proofs.YtfnlgpngnknkmaaDoor Go.Proofs.YtfnlgpngnknkmaaDoor.F
set_option linter.unusedVariables false
set_option linter.unusedSimpArgs false

/-- Does a text begin with another one? -/
def begB (x s : ByteArray) : Bool := decide (s.data.toList <+: x.data.toList)

theorem begins_any (s t : ByteArray) (w : World) (h1 : s.size ≤ 1000000) (h2 : t.size ≤ 1000000) :
    Calls Tryd.prog 22 #[.string s, .string t] w fun e w' => e = .returned (.bool (begB s t)) ∧ w = w' := by
  by_cases hl : t.size ≤ s.size
  · have he : ((s.extract 0 t.size).toList == t.toList) = begB s t := by
      rw [Lib.toList_data, Lib.toList_data, text_of_take, Bool.eq_iff_iff, beq_iff_eq]
      unfold begB
      rw [decide_eq_true_eq, List.prefix_iff_eq_take, list_len]
      exact eq_comm
    have HE := Lib.hid he; clear he
    go_enter Tryd.func22, Tryd.ntmps22
    go_wp2_with fail
    go_ret
    exact ⟨by rw [← HE.out]; rfl, rfl⟩
  · have he : begB s t = false := by
      unfold begB
      rw [decide_eq_false_iff_not]
      rintro ⟨r, hr⟩
      have := congrArg List.length hr
      rw [List.length_append, list_len, list_len] at this
      omega
    have HE := Lib.hid he; clear he
    go_enter Tryd.func22, Tryd.ntmps22
    go_wp2_with fail
    go_ret
    exact ⟨by rw [HE.out]; rfl, rfl⟩

set_option maxHeartbeats 1000000 in
/-- The statement's own test: it tells whether a text begins with s. -/
theorem in_any (x s a : ByteArray) (p q : Nat) (w : World) (ha : a = afterB s) (hp : w.cell? ⟨p, 0, none⟩ = some (.string s)) (hq : w.cell? ⟨q, 0, none⟩ = some (.string a)) :
    Calls Tryd.prog 21 #[.string x, .pointer (some ⟨p, 0, none⟩), .pointer (some ⟨q, 0, none⟩)] w fun e w' => e = .returned (.bool (begB x s)) ∧ w = w' := by
  have hsp := in_spec s.data.toList x.data.toList
  have had : a.toList = afterL s.data.toList := by rw [ha, Lib.toList_data]; rfl
  unfold InL at hsp
  rw [← had] at hsp
  clear ha had
  by_cases h1 : x.data.toList < s.data.toList
  · have b1 : Op.bytesLess x.toList s.toList = true := by rw [Go.Proofs.bytesLess_eq, Lib.toList_data, Lib.toList_data]; exact decide_eq_true h1
    have HE := Lib.hid (show begB x s = false from by
      unfold begB
      rw [decide_eq_false_iff_not, ← hsp]
      exact fun h => h.1 h1)
    clear hsp h1
    go_enter Tryd.func21, Tryd.ntmps21
    go_wp2_with fail
    go_ret
    exact ⟨by rw [HE.out]; rfl, rfl⟩
  · have b1 : Op.bytesLess x.toList s.toList = false := by rw [Go.Proofs.bytesLess_eq, Lib.toList_data, Lib.toList_data]; exact decide_eq_false h1
    by_cases h2 : a.toList = []
    · have b2 : a.toList.isEmpty = true := by rw [h2]; rfl
      have HE := Lib.hid (show begB x s = true from by
        unfold begB
        rw [decide_eq_true_eq, ← hsp]
        exact ⟨h1, .inl h2⟩)
      clear hsp h1
      go_enter Tryd.func21, Tryd.ntmps21
      go_wp2_with fail
      go_ret
      exact ⟨by rw [HE.out]; rfl, rfl⟩
    · have b2 : a.toList.isEmpty = false := by cases hh : a.toList with
        | nil => exact absurd hh h2
        | cons _ _ => rfl
      by_cases h3 : x.data.toList < a.toList
      · have b3 : Op.bytesLess x.toList a.toList = true := by rw [Go.Proofs.bytesLess_eq, Lib.toList_data x]; exact decide_eq_true h3
        have HE := Lib.hid (show begB x s = true from by
          unfold begB
          rw [decide_eq_true_eq, ← hsp]
          exact ⟨h1, .inr h3⟩)
        clear hsp h1 h3
        go_enter Tryd.func21, Tryd.ntmps21
        go_wp2_with fail
        go_ret
        exact ⟨by rw [HE.out]; rfl, rfl⟩
      · have b3 : Op.bytesLess x.toList a.toList = false := by rw [Go.Proofs.bytesLess_eq, Lib.toList_data x]; exact decide_eq_false h3
        have HE := Lib.hid (show begB x s = false from by
          unfold begB
          rw [decide_eq_false_iff_not, ← hsp]
          rintro ⟨_, h | h⟩
          · exact h2 h
          · exact h3 h)
        clear hsp h1 h3
        go_enter Tryd.func21, Tryd.ntmps21
        go_wp2_with fail
        go_ret
        exact ⟨by rw [HE.out]; rfl, rfl⟩

theorem beg_self (s : ByteArray) : begB s s = true := decide_eq_true (List.prefix_refl _)
theorem beg_app (s t : ByteArray) : begB (s ++ t) s = true := decide_eq_true (by rw [Go.Joins.data_append]; exact List.prefix_append _ _)

set_option maxRecDepth 100000 in
set_option maxHeartbeats 1000000 in
theorem walk (s t : ByteArray) (w : World) (hs : s.size ≤ maxLen) (ht : t.size ≤ maxLen) (hlo : Lo w) :
    Calls Tryd.prog 7 #[.string s, .string t] w fun e w' => e = .returned (.bool true) ∧ Only [] w w' := by
  have HLO := Lib.hid hlo; clear hlo
  by_cases hbig : 1000 < s.size ∨ 1000 < t.size
  · have hb : 1000 < s.size ∨ (¬ 1000 < s.size ∧ 1000 < t.size) := by omega
    clear hbig
    rcases hb with hb | ⟨hb1, hb2⟩
    all_goals
      go_enter Tryd.func7, Tryd.ntmps7
      go_wp2_with fail
      refine (wakes_any _ (HLO.out.only (Only.alloc [] w _))).mono ?_
      rintro e w1 ⟨rfl, o1⟩
      have O1 := Lib.hid ((Only.alloc [] w _).trans o1 (Within.nil _ _)); clear o1
      go_wp2_with fail
      go_ret
      exact ⟨rfl, O1.out⟩
  · have hsm : s.size ≤ 1000 := by omega
    have htm : t.size ≤ 1000 := by omega
    clear hbig hs ht
    go_enter Tryd.func7, Tryd.ntmps7
    go_wp2_with fail
    refine (after_any s _ (by omega)).mono ?_
    rintro e w1 ⟨rfl, o1⟩
    have hb1 := o1.keeps (heap_alloc_self (w := w) (o := .cells #[.string s] 9)) (by simp)
    have O1 := Lib.hid ((Only.alloc [] w _).trans o1 (Within.nil _ _)); clear o1
    obtain ⟨A, hA⟩ : ∃ A, A = afterB s := ⟨_, rfl⟩
    rw [← hA]
    have HA := Lib.hid hA; clear hA
    have HB1 := Lib.hid hb1
    have c1 := cell_of_block hb1 0 (v := .string s) rfl
    clear hb1
    have hb2 := heap_alloc_self (w := w1) (o := .cells #[.string A] 9)
    have hb3 : (w1.alloc (.cells #[.string A] 9)).heap[w.heap.size]? = some (.cells #[.string s] 9) := by rw [heap_alloc_lt (lt_of_block HB1.out)]; exact HB1.out
    have k1 := cell_of_block hb3 0 (v := .string s) rfl
    have k2 := cell_of_block hb2 0 (v := .string A) rfl
    have HIN := fun x => in_any x s A w.heap.size w1.heap.size (w1.alloc (.cells #[.string A] 9)) HA.out k1 k2
    have HINH := Lib.hid HIN; clear HIN
    have K1 := Lib.hid k1
    have K2 := Lib.hid k2
    have O2 := Lib.hid (O1.out.trans (Only.alloc [] w1 (.cells #[.string A] 9)) (Within.nil _ _))
    clear hb2 hb3
    go_wp2_with fail
    refine (HINH.out s).mono ?_
    rintro e w2 ⟨rfl, rfl⟩
    rw [beg_self]
    go_wp2_with fail
    refine (HINH.out (s ++ t)).mono ?_
    rintro e w2 ⟨rfl, rfl⟩
    rw [beg_app]
    go_wp2_with fail
    refine (HINH.out _).mono ?_
    rintro e w2 ⟨rfl, rfl⟩
    rw [beg_app]
    go_wp2_with fail
    have KD1 : ((w1.alloc (.cells #[.string A] 9)).drew).cell? ⟨w.heap.size, 0, none⟩ = some (.string s) := K1.out
    have KD2 : ((w1.alloc (.cells #[.string A] 9)).drew).cell? ⟨w1.heap.size, 0, none⟩ = some (.string A) := K2.out
    have HT := in_any t s A w.heap.size w1.heap.size ((w1.alloc (.cells #[.string A] 9)).drew) HA.out KD1 KD2
    have HU := begins_any t s ((w1.alloc (.cells #[.string A] 9)).drew) (by omega) (by omega)
    have O3 := Lib.hid (O2.out.trans (Only.drew [] _) (Within.nil _ _))
    clear KD1 KD2
    cases hB : begB t s
    all_goals
      rw [hB] at HT HU
      have HTH := Lib.hid HT
      have HUH := Lib.hid HU
      clear HT HU hB
      go_region_with ((first | (go_at_call 21; refine (HTH.out).mono ?_; rintro e w2 ⟨rfl, rfl⟩) | (go_at_call 22; refine (HUH.out).mono ?_; rintro e w2 ⟨rfl, rfl⟩) | (go_at_call 11; refine (wakes_any _ (HLO.out.only O3.out)).mono ?_; rintro e w3 ⟨rfl, o3⟩; have O4 := Lib.hid (O3.out.trans o3 (Within.nil _ _)); clear o3)))
      all_goals
        go_wp2_with fail
        go_ret
        exact ⟨rfl, O4.out⟩

set_option maxRecDepth 100000 in
theorem lifted (os : Os) (started : os.Started) (H : Type) (enc : TypeId × Value → H) :
    ReturnsInHanded {} Tryd.checked os 7 .any (fun w args => (Rows.keyAfterSpec.pre enc Tryd.prog Tryd.f7 Rows.keyAfterRow.domain false w args ∧ laidMetH Tryd.prog Rows.keyAfterRow.laid w) ∧ sizedMet enc Tryd.prog Tryd.f7 (OpenSpec.ofChange Rows.keyAfterSpec) false w args)
      (Rows.keyAfterSpec.post enc Tryd.prog Tryd.f7 false true false false) := by
  refine handed_door (C := Tryd.checked) (X := fun w _ => laidMetH Tryd.prog Rows.keyAfterRow.laid w) own started (by kernel_rfl) Tryd.func7
    (ChangeSpec.witness_shaped (enc := enc) (C := Tryd.checked) (os := os) (X := fun w _ => laidMetH Tryd.prog Rows.keyAfterRow.laid w) false (World.laidAll Tryd.prog os Rows.keyAfterRow.laid) #[.string ⟨#[]⟩, .string ⟨#[]⟩] 8 (World.laidAll_os _ _ _)
      (World.shaped_of_ZipB (by kernel_rfl) (by kernel_rfl)) (by kernel_rfl) (by kernel_rfl) (by kernel_rfl)
      (by rw [MakeChecks.laidMetH_plain _ _ _ (by kernel_rfl)]; exact laidMet_laidAll _ (by kernel_rfl) (by kernel_rfl))) ?_
  intro W base args ds gs before hval0 hW hsh
  have hlo := lo_of_shape hsh
  clear hsh
  have hval : ∀ (j : Nat) t v, Tryd.f7.params[j]? = some t → args[j]? = some v → Value.okWide Tryd.prog W .any base t v := hval0
  have hW' := hW
  obtain ⟨pp, pq, hA0, hV, rfl, hfz, hnd⟩ := hW
  have hA : DataW.TrodAll enc Tryd.prog W 0 (fun _ => true) true Tryd.f7.params.toList args.toList ds pp := hA0
  rw [Tryd.params7] at hA hval
  obtain ⟨v0, vs0, d0, ds0, p0, q0, hargs, rfl, rfl, h0, r0⟩ := trodAll_cons hA
  obtain ⟨v1, vs1, d1, ds1, p1, q1, rfl, rfl, rfl, h1, r1⟩ := trodAll_cons r0
  obtain ⟨rfl, rfl, rfl⟩ := trodAll_nil r1
  obtain rfl : args = #[v0, v1] := by cases args; simp_all
  obtain ⟨rfl, rfl⟩ := trodVars_none hV
  obtain ⟨s0, rfl, rfl, rfl, w0⟩ := Go.ChangeMaps.open_string Tryd.underlying9 (hval 0 9 v0 rfl rfl) h0
  obtain ⟨s1, rfl, rfl, rfl, w1⟩ := Go.ChangeMaps.open_string Tryd.underlying9 (hval 1 9 v1 rfl rfl) h1
  clear hA0 hval0
  simp only [List.append_nil] at hW'
  refine (walk s0 s1 W w0 w1 hlo).mono fun e W' ⟨he, hg⟩ => ?_
  subst he
  have hb : Below W.heap.size W W' := hg.below (Nat.le_refl _) (by simp)
  exact ⟨_, rfl, _, _, _, [], _, [], hW', trodAll_cons_mk (shut_bool Tryd.underlying4 _) trodAll_mk0, (trodAll_cons_mk (Go.ChangeMaps.shut_string Tryd.underlying9 w0) (trodAll_cons_mk (Go.ChangeMaps.shut_string Tryd.underlying9 w1) trodAll_mk0)), rfl, hb.frame _, fun h => by cases h⟩

theorem over : Rows.KeyAfterSaid :=
  OpenClaim.holds_of_wide 7 Tryd.f7 rfl rfl rfl rfl rfl rfl rfl ⟨rfl, rfl, rfl, rfl, rfl⟩ rfl rfl rfl rfl rfl (by kernel_rfl) Tryd.func7 (by kernel_rfl)
    (of_decide_eq_true (by kernel_rfl)) (by unfold Func.isWrapper; first | (rw [if_pos (by decide +kernel)]; kernel_rfl) | (rw [if_neg (by decide +kernel)]; exact ⟨rfl, rfl⟩))
    (fun os started H enc _ => lifted os started H enc)

theorem proved : Rows.KeyAfterCardSaid :=
  Claim7.holds_tied_plain_at .later [] [.data, .pinned] true Rows.keyAfterCard.stood.harness false over (fun _ h => by cases h) (by kernel_rfl) (fun _ h => by cases h) keyAfter_row_tie rfl ⟨rfl, rfl⟩ (by kernel_rfl) rfl
    (fun f fn hf hfn => by
      obtain rfl : f = 7 := Option.some.inj ((show Tryd.prog.funcNamed "hedgerow/hedgerowlaw03.KeyAfter" = some 7 by kernel_rfl).symm.trans hf) |>.symm
      obtain rfl : fn = Tryd.f7 := (Option.some.inj (Tryd.func7.symm.trans hfn)).symm
      exact ⟨by kernel_rfl, fun j t ht => by
        rw [Tryd.params7] at ht
        have hm : t ∈ [9] := by simpa using Array.mem_of_getElem? ht
        have hall : ([9].all fun u => !Tryd.prog.wantsStandIn u) = true := by kernel_rfl
        exact (show Tryd.prog.wantsStandIn t = false by simpa using List.all_eq_true.1 hall t hm)⟩)
    (by kernel_rfl)
#print axioms proved
end Go.Proofs.YtfnlgpngnknkmaaDoor.keyAfter
