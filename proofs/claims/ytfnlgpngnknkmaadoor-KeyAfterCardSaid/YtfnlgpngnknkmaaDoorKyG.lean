/-
  What is proved here: 'val.Good' tells whether a value is good.
  No condition.
-/
import Derived.Test.YtfnlgpngnknkmaaDoorKyP
import Derived.Test.YtfnlgpngnknkmaaDoorMapK
namespace Go.Proofs.YtfnlgpngnknkmaaDoor
open Go.RowKit Go.Proofs.YtfnlgpngnknkmaaDoor.F Go.Proofs.YtfnlgpngnknkmaaDoorW.PrintWords Go.Proofs.YtfnlgpngnknkmaaDoorW.PrintLast
set_option linter.unusedSimpArgs false
set_option linter.unusedVariables false

theorem Tryd.undInt : Tryd.prog.underlying 3 = some (.int .i64) := by kernel_rfl

def fnV (k : Nat) : Value := .func (.func k) #[] #[]
def kindMap : Array MapEntry := #[⟨.int .i64 1, fnV 37, 0⟩, ⟨.int .i64 2, fnV 38, 1⟩, ⟨.int .i64 3, fnV 39, 2⟩]

/-- The map of the kinds, made behind a value's box. -/
theorem kinds_made (w : World) (b : Obj) : ∃ W1 W2 W3 : World,
    (Instr.mapUpdate 67 (.map (some (w.heap.size + 1))) (.int .i64 1) (fnV 37)).run Tryd.prog ((w.alloc b).alloc (.map #[] 0)) = .ok () W1 ∧
    (Instr.mapUpdate 67 (.map (some (w.heap.size + 1))) (.int .i64 2) (fnV 38)).run Tryd.prog W1 = .ok () W2 ∧
    (Instr.mapUpdate 67 (.map (some (w.heap.size + 1))) (.int .i64 3) (fnV 39)).run Tryd.prog W2 = .ok () W3 ∧
    W3.heap[w.heap.size]? = some b ∧ W3.heap[w.heap.size + 1]? = some (.map kindMap 3) ∧ Only [] w W3 := by
  have h0 := (two_new w b (.map #[] 0)).2
  have hk : ∀ n : Int, MapKept.IsKey (.int .i64) (.int .i64 n) := fun _ => rfl
  obtain ⟨W1, r1, t1⟩ := map_put (P := Tryd.prog) (fnV 37) Tryd.underlying67 Tryd.undInt (hk 1) (by simp) h0 (by simp)
  obtain ⟨W2, r2, t2⟩ := map_put (P := Tryd.prog) (fnV 38) Tryd.underlying67 Tryd.undInt (hk 2) (by simp [hk]) t1.1 (by simp)
  obtain ⟨W3, r3, t3⟩ := map_put (P := Tryd.prog) (fnV 39) Tryd.underlying67 Tryd.undInt (hk 3) (by simp [hk]) t2.1 (by simp)
  refine ⟨W1, W2, W3, r1, r2, r3, ?_, t3.1, ?_⟩
  · have e := (two_new w b (.map #[] 0)).1
    exact t3.2.keeps (t2.2.keeps (t1.2.keeps e (by simp)) (by simp)) (by simp)
  · have h := (((old2 w b (.map #[] 0)).trans t1.2 (fun k hk => .inr (by simp at hk; omega))).trans t2.2 (fun k hk => .inr (by simp at hk; omega))).trans t3.2 (fun k hk => .inr (by simp at hk; omega))
    exact h

theorem kinds_look {W : World} {r : Nat} (h : W.heap[r]? = some (.map kindMap 3)) :
    (Instr.lookup 67 (.map (some r)) (.int .i64 1) true).run Tryd.prog W = .ok (.tuple #[fnV 37, .bool true]) W ∧
    (Instr.lookup 67 (.map (some r)) (.int .i64 2) true).run Tryd.prog W = .ok (.tuple #[fnV 38, .bool true]) W ∧
    (Instr.lookup 67 (.map (some r)) (.int .i64 3) true).run Tryd.prog W = .ok (.tuple #[fnV 39, .bool true]) W ∧
    ∀ k : Int, k ≠ 1 → k ≠ 2 → k ≠ 3 → (Instr.lookup 67 (.map (some r)) (.int .i64 k) true).run Tryd.prog W = .ok (.tuple #[.nilFunc, .bool false]) W := by
  have hk : ∀ n : Int, MapKept.IsKey (.int .i64) (.int .i64 n) := fun _ => rfl
  have hall : ∀ x ∈ kindMap.toList, MapKept.IsKey (.int .i64) x.key := by simp [kindMap, hk]
  refine ⟨?_, ?_, ?_, ?_⟩
  · exact map_look Tryd.underlying67 Tryd.undInt (hk 1) hall h (e := kindMap[0]) (by simp [kindMap]) rfl (by simp [kindMap]) true
  · exact map_look Tryd.underlying67 Tryd.undInt (hk 2) hall h (e := kindMap[1]) (by simp [kindMap]) rfl (by simp [kindMap]) true
  · exact map_look Tryd.underlying67 Tryd.undInt (hk 3) hall h (e := kindMap[2]) (by simp [kindMap]) rfl (by simp [kindMap]) true
  · intro k h1 h2 h3
    exact map_miss Tryd.underlying67 Tryd.undInt (hk k) hall h (by simp [kindMap]; omega) (by kernel_rfl) true


theorem no_bytes (s : ByteArray) : (s.toList == ([] : List UInt8)) = (s.size == 0) := by
  rw [Lib.toList_data, Bool.eq_iff_iff, beq_iff_eq, beq_iff_eq, ← list_len]
  constructor
  · intro h; rw [h]; rfl
  · intro h; exact List.eq_nil_of_length_eq_zero h

theorem good_one (n : Int) (s : ByteArray) : val_own_bool.f 1 n s = some (goodV ⟨1, n, s⟩) := by
  unfold val_own_bool.f goodV
  simp only [no_bytes, if_true]
  by_cases h0 : n = 0
  · subst h0; simp
  · by_cases h1 : n = 1
    · subst h1; simp
    · have e0 : (n == 0) = false := by rw [beq_eq_false_iff_ne]; exact h0
      have e1 : (n == 1) = false := by rw [beq_eq_false_iff_ne]; exact h1
      rw [if_neg h0, if_neg h1, e0, e1]; rfl
theorem good_two (n : Int) (s : ByteArray) : val_own_int.f 2 n s = some (goodV ⟨2, n, s⟩) := by
  unfold val_own_int.f goodV
  simp only [no_bytes]
  rw [if_neg (by decide), if_pos trivial]
theorem good_three (n : Int) (s : ByteArray) : val_own_text.f 3 n s = some (goodV ⟨3, n, s⟩) := by
  have hg : goodV ⟨3, n, s⟩ = (n == 0 && decide (s.size ≤ 1024)) := by
    unfold goodV
    simp only
    rw [if_neg (by decide), if_neg (by decide), if_pos trivial]
  rw [hg]
  unfold val_own_text.f
  by_cases h0 : n = 0
  · subst h0
    rw [if_pos rfl]
    simp only [beq_self_eq_true, Bool.true_and]
    congr 1
    rw [Bool.eq_iff_iff, decide_eq_true_eq, decide_eq_true_eq]
    omega
  · have e0 : (n == 0) = false := by rw [beq_eq_false_iff_ne]; exact h0
    rw [if_neg h0, e0]; rfl

def GoodPost (b : Bool) (w : World) (e : Ending) (w' : World) : Prop := e = .returned (.bool b) ∧ Only [] w w'

set_option maxRecDepth 100000 in
set_option maxHeartbeats 1000000 in
theorem good_bool (n : Int) (s : ByteArray) (w : World) :
    Calls Tryd.prog 25 #[valV (sd ⟨1, n, s⟩)] w (GoodPost (goodV ⟨1, n, s⟩) w) := by
  simp only [valV, sd]
  have hmm := @run_makeMap Tryd.prog
  obtain ⟨W1, W2, W3, r1, r2, r3, hb, hm, ho⟩ := kinds_made w (.cells #[.int .i64 1, .int .i64 n, .string s] 45)
  obtain ⟨l1, l2, l3, l4⟩ := kinds_look hm
  have c0 := cell_of_block hb 0 (v := .int .i64 1) rfl
  have c1 := cell_of_block hb 1 (v := .int .i64 n) rfl
  have c2 := cell_of_block hb 2 (v := .string s) rfl
  unfold fnV at r1 r2 r3 l1 l2 l3
  have HO := Lib.hid ho
  clear hb hm ho
  clear l2 l3 l4
  have hc := val_own_bool.calls _ n s _ W3 (good_one n s)
  have HC := Lib.hid hc; clear hc
  go_enter Tryd.func25, Tryd.ntmps25
  go_wp2_with fail
  refine HC.out.mono ?_
  rintro e w4 ⟨rfl, hbel⟩
  have H4 := Lib.hid (HO.out.trans (Only.of_below hbel) (Within.nil _ _)); clear hbel
  go_wp2_with fail
  go_ret
  exact ⟨rfl, H4.out⟩

set_option maxRecDepth 100000 in
set_option maxHeartbeats 1000000 in
theorem good_int (n : Int) (s : ByteArray) (w : World) :
    Calls Tryd.prog 25 #[valV (sd ⟨2, n, s⟩)] w (GoodPost (goodV ⟨2, n, s⟩) w) := by
  simp only [valV, sd]
  have hmm := @run_makeMap Tryd.prog
  obtain ⟨W1, W2, W3, r1, r2, r3, hb, hm, ho⟩ := kinds_made w (.cells #[.int .i64 2, .int .i64 n, .string s] 45)
  obtain ⟨l1, l2, l3, l4⟩ := kinds_look hm
  have c0 := cell_of_block hb 0 (v := .int .i64 2) rfl
  have c1 := cell_of_block hb 1 (v := .int .i64 n) rfl
  have c2 := cell_of_block hb 2 (v := .string s) rfl
  unfold fnV at r1 r2 r3 l1 l2 l3
  have HO := Lib.hid ho
  clear hb hm ho
  clear l1 l3 l4
  have hc := val_own_int.calls _ n s _ W3 (good_two n s)
  have HC := Lib.hid hc; clear hc
  go_enter Tryd.func25, Tryd.ntmps25
  go_wp2_with fail
  refine HC.out.mono ?_
  rintro e w4 ⟨rfl, hbel⟩
  have H4 := Lib.hid (HO.out.trans (Only.of_below hbel) (Within.nil _ _)); clear hbel
  go_wp2_with fail
  go_ret
  exact ⟨rfl, H4.out⟩

set_option maxRecDepth 100000 in
set_option maxHeartbeats 1000000 in
theorem good_text (n : Int) (s : ByteArray) (w : World) :
    Calls Tryd.prog 25 #[valV (sd ⟨3, n, s⟩)] w (GoodPost (goodV ⟨3, n, s⟩) w) := by
  simp only [valV, sd]
  have hmm := @run_makeMap Tryd.prog
  obtain ⟨W1, W2, W3, r1, r2, r3, hb, hm, ho⟩ := kinds_made w (.cells #[.int .i64 3, .int .i64 n, .string s] 45)
  obtain ⟨l1, l2, l3, l4⟩ := kinds_look hm
  have c0 := cell_of_block hb 0 (v := .int .i64 3) rfl
  have c1 := cell_of_block hb 1 (v := .int .i64 n) rfl
  have c2 := cell_of_block hb 2 (v := .string s) rfl
  unfold fnV at r1 r2 r3 l1 l2 l3
  have HO := Lib.hid ho
  clear hb hm ho
  clear l1 l2 l4
  have hc := val_own_text.calls _ n s _ W3 (good_three n s)
  have HC := Lib.hid hc; clear hc
  go_enter Tryd.func25, Tryd.ntmps25
  go_wp2_with fail
  refine HC.out.mono ?_
  rintro e w4 ⟨rfl, hbel⟩
  have H4 := Lib.hid (HO.out.trans (Only.of_below hbel) (Within.nil _ _)); clear hbel
  go_wp2_with fail
  go_ret
  exact ⟨rfl, H4.out⟩

set_option maxRecDepth 100000 in
set_option maxHeartbeats 1000000 in
theorem good_other (k : Int) (n : Int) (s : ByteArray) (w : World) (k1 : k ≠ 1) (k2 : k ≠ 2) (k3 : k ≠ 3) :
    Calls Tryd.prog 25 #[valV (sd ⟨k, n, s⟩)] w (GoodPost (goodV ⟨k, n, s⟩) w) := by
  simp only [valV, sd]
  have hmm := @run_makeMap Tryd.prog
  obtain ⟨W1, W2, W3, r1, r2, r3, hb, hm, ho⟩ := kinds_made w (.cells #[.int .i64 k, .int .i64 n, .string s] 45)
  obtain ⟨l1, l2, l3, l4⟩ := kinds_look hm
  have c0 := cell_of_block hb 0 (v := .int .i64 k) rfl
  have c1 := cell_of_block hb 1 (v := .int .i64 n) rfl
  have c2 := cell_of_block hb 2 (v := .string s) rfl
  unfold fnV at r1 r2 r3 l1 l2 l3
  have HO := Lib.hid ho
  clear hb hm ho
  have lk := l4 k k1 k2 k3
  have HV := Lib.hid (show goodV ⟨k, n, s⟩ = false from by unfold goodV; rw [if_neg k1, if_neg k2, if_neg k3])
  clear l1 l2 l3 l4 k1 k2 k3
  go_enter Tryd.func25, Tryd.ntmps25
  go_wp2_with fail
  go_ret
  exact ⟨by rw [HV.out]; rfl, HO.out⟩

theorem good_any (x : S45) (w : World) : Calls Tryd.prog 25 #[valV x] w (GoodPost (goodV (vd x)) w) := by
  obtain ⟨k, n, s⟩ := x
  by_cases k1 : k = 1
  · subst k1; exact good_bool n s w
  · by_cases k2 : k = 2
    · subst k2; exact good_int n s w
    · by_cases k3 : k = 3
      · subst k3; exact good_text n s w
      · exact good_other k n s w k1 k2 k3

end Go.Proofs.YtfnlgpngnknkmaaDoor
