/-
  What is proved here: the statement TreeFull: a tree has just so many keys; one that is there may be put anew; for every input.
  No condition.
-/
import Derived.Test.YtmhbiakcadabmaaFullM
import Derived.Test.YtmhbiakcadabmaaPlay10
import Derived.Test.YtmhbiakcadabmaaBytes
import Derived.ProofKit
import Derived.OpenShut
import Derived.HandedShaped
import Derived.Deep.DeepCutAuto
namespace Go.Proofs.Ytmhbiakcadabmaa.treeFull
open Go.ChangeShapes Go.WideShapes Go.ChangeAt Go.RowKit Go.Proofs.Ytmhbiakcadabmaa
set_option linter.unusedVariables false

theorem i64_and63 (n : Int) : bits .and .i64 n 63 = n % 64 := by
  have h63 : (BitVec.ofInt 64 63).toNat = 2 ^ 6 - 1 := by decide
  have key : (BitVec.ofInt 64 n &&& BitVec.ofInt 64 63).toNat = (n % ((2 ^ 64 : Nat) : Int)).toNat % 2 ^ 6 := by
    rw [BitVec.toNat_and, BitVec.toNat_ofInt, h63, Nat.and_two_pow_sub_one_eq_mod]
  show IntKind.i64.wrap ((BitVec.ofInt 64 n &&& BitVec.ofInt 64 63).toNat : Nat) = n % 64
  rw [key, IntKind.wrap_i64]
  omega

theorem conv_two {V : World} {g : Nat} (c d : UInt8) {x y : Int} (hx : x = (c.toNat : Int)) (hy : y = (d.toNat : Int)) (h : V.heap[g]? = some (.cells #[.int .u8 x, .int .u8 y] 5 (0, 0))) : (convert 55 9 (.slice (some ⟨g, 0, none⟩) 2 2)).run Try.prog V = .ok (.string ⟨#[c, d]⟩) V := by
  subst hx hy
  exact run_bytes_text_block V 55 9 5 g [c, d] 2 Try.underlying55 Try.underlying5 Try.underlying9 h

theorem conv_key (W : World) {k : Nat} (hk : k < 4096) : (convert 55 9 (.slice (some ⟨W.heap.size, 0, none⟩) 2 2)).run Try.prog (W.alloc (.cells #[.int .u8 ((k : Int) / 64), .int .u8 (bits BinOp.and IntKind.i64 (k : Int) 63 % 256)] 5)) = .ok (.string (keyF k)) (W.alloc (.cells #[.int .u8 ((k : Int) / 64), .int .u8 (bits BinOp.and IntKind.i64 (k : Int) 63 % 256)] 5)) :=
  conv_two (UInt8.ofNat (k / 64)) (UInt8.ofNat (k % 64)) (by rw [UInt8.toNat_ofNat']; omega) (by rw [i64_and63, UInt8.toNat_ofNat']; omega) heap_alloc_self
theorem conv_key5 (W : World) : (convert 55 9 (.slice (some ⟨W.heap.size, 0, none⟩) 2 2)).run Try.prog (W.alloc (.cells #[.int .u8 0, .int .u8 5] 5)) = .ok (.string (keyF 5)) (W.alloc (.cells #[.int .u8 0, .int .u8 5] 5)) := conv_two 0 5 rfl rfl heap_alloc_self
theorem conv_key6 (W : World) : (convert 55 9 (.slice (some ⟨W.heap.size, 0, none⟩) 2 2)).run Try.prog (W.alloc (.cells #[.int .u8 0, .int .u8 6] 5)) = .ok (.string (keyF 6)) (W.alloc (.cells #[.int .u8 0, .int .u8 6] 5)) := conv_two 0 6 rfl rfl heap_alloc_self

set_option maxRecDepth 100000 in
set_option maxHeartbeats 4000000 in
theorem walk (fan n : Int) (w : World) (hf : -9223372036854775808 ≤ fan ∧ fan ≤ 9223372036854775807) (_hn : -9223372036854775808 ≤ n ∧ n ≤ 9223372036854775807) :
    Calls Try.prog 5 #[.int .i64 fan, .int .i64 n] w fun e w' => e = .returned (.bool true) ∧ Only [] w w' := by
  have hm1 := Int.emod_nonneg fan (show (62 : Int) ≠ 0 by omega)
  have hm2 := Int.emod_lt_of_pos fan (show (0 : Int) < 62 by omega)
  have HMOD := Lib.hid (mod_any fan 62 w (by omega) (by omega) hf.1 hf.2)
  obtain ⟨m, hm⟩ : ∃ m, m = fan % 62 := ⟨_, rfl⟩
  rw [← hm] at HMOD hm1 hm2
  clear hm
  obtain ⟨f, hff⟩ : ∃ f : Nat, 3 + m = (f : Int) := ⟨(3 + m).toNat, by omega⟩
  have HN := Lib.hid (new_any (Sep.nil w) f (by omega) (by omega))
  rw [← hff] at HN
  have HFF := Lib.hid hff
  clear hff
  go_enter Try.func5, Try.ntmps5
  go_wp2_with fail
  refine HMOD.out.mono ?_
  rintro e w2 ⟨rfl, rfl⟩
  go_wp2_with fail
  refine HN.out.mono ?_
  rintro e w2 ⟨t, rfl, hs2⟩
  have HS2 := Lib.hid hs2; clear hs2 HN HMOD
  go_wp2_with fail
  go_loopw [7] (fun s7 wr => ∃ k : Nat, k ≤ 4096 ∧ s7 = .int .i64 k ∧ Sep w wr [treeRes t f (listF k)]) (fun s7 _ => 4096 - (intOf s7).toNat)
  case atStart => exact ⟨0, Nat.zero_le _, rfl, HS2.out⟩
  case round =>
    obtain ⟨k, hk, rfl, hs⟩ := hrel
    have HT := Lib.hid hs; clear hs HS2
    by_cases hlt : k < 4096
    · have hconv := conv_key wr hlt
      have HP := Lib.hid (full_put hlt)
      go_wp2_with fail
      refine (tput_all (HT.out.forget (.cells #[.int .u8 ((k : Int) / 64), .int .u8 (bits BinOp.and IntKind.i64 (k : Int) 63 % 256)] 5)) (keyF k) k (by rw [listF_length]; omega)).mono ?_
      rintro r w4 ⟨rfl, hs4⟩
      rw [HP.out] at hs4 ⊢
      have HS4 := Lib.hid hs4; clear hs4 hconv
      go_wp2_with fail
      go_roundw
      case rel => exact ⟨k + 1, by omega, by go_num, HS4.out⟩
      case measure => simp [intOf]; omega
    · have hk2 : k = 4096 := by omega
      subst hk2
      have HLF := Lib.hid (listF_length 4096)
      have HFM := Lib.hid (full_more n)
      have HFA := Lib.hid (full_again n)
      have HGL := Lib.hid (listG_length n)
      have HGG := Lib.hid (listG_get n)
      have HGH := Lib.hid (listG_here n)
      have HGD := Lib.hid (listG_del n)
      generalize listF 4096 = LF at *
      generalize listG n = LG at *
      go_wp2_with fail
      refine (tput_all HT.out ⟨#[109, 111, 114, 101]⟩ n (by rw [HLF.out]; omega)).mono ?_
      rintro r w4 ⟨rfl, hs4⟩
      rw [HFM.out] at hs4 ⊢
      have HS4 := Lib.hid hs4; clear hs4
      have hconv := conv_key5 w4
      go_wp2_with fail
      refine (tput_all (HS4.out.forget (.cells #[.int .u8 0, .int .u8 5] 5)) (keyF 5) n (by rw [HLF.out]; omega)).mono ?_
      rintro r w5 ⟨rfl, hs5⟩
      rw [HFA.out] at hs5 ⊢
      have HS5 := Lib.hid hs5; clear hs5 hconv
      have hconv := conv_key5 w5
      go_wp2_with fail
      refine (get_any (HS5.out.forget (.cells #[.int .u8 0, .int .u8 5] 5)).tree (keyF 5)).mono ?_
      rintro r w6 ⟨rfl, ho6⟩
      rw [HGG.out]
      have HS6 := Lib.hid ((HS5.out.forget (.cells #[.int .u8 0, .int .u8 5] 5)).only ho6); clear ho6 hconv
      simp only [Option.getD, Option.isSome]
      go_wp2_with fail
      refine (len_any HS6.out.tree).mono ?_
      rintro r w7 ⟨rfl, rfl⟩
      rw [HGL.out]
      have hconv := conv_key6 w6
      go_wp2_with fail
      refine (tdel_any (HS6.out.forget (.cells #[.int .u8 0, .int .u8 6] 5)) (keyF 6) (by rw [HGL.out]; omega)).mono ?_
      rintro r w8 ⟨rfl, hs8⟩
      have HS8 := Lib.hid hs8; clear hs8 hconv
      rw [HGH.out]
      go_wp2_with fail
      refine (len_any HS8.out.tree).mono ?_
      rintro r w9 ⟨rfl, rfl⟩
      rw [HGD.out]
      go_wp2_with fail
      refine (wakes_any _).mono ?_
      rintro e w10 ⟨rfl, ho⟩
      have HF := Lib.hid (HS8.out.old.trans ho (Within.nil _ _)); clear ho
      go_wp2_with fail
      go_ret
      exact ⟨rfl, HF.out⟩

theorem own : ownKnob Try.prog.godebug = none := by kernel_rfl
theorem laidOut : laidOutB Try.prog = true := by kernel_rfl

set_option maxRecDepth 100000 in
theorem lifted (os : Os) (started : os.Started) (H : Type) (enc : TypeId × Value → H) :
    ReturnsInHanded {} Try.checked os 5 .any (Rows.treeFullSpec.pre6 enc Try.prog Try.f5 Rows.treeFullRow.domain false) (Rows.treeFullSpec.post enc Try.prog Try.f5 false true false false) := by
  refine returnsInHanded_of_change (C := Try.checked) own started (by kernel_rfl) Try.func5
    (ChangeSpec.witness6 (enc := enc) (C := Try.checked) false ⟨#[], #[.int .i64 0, .int .i64 0], []⟩ 8 (by kernel_rfl) (by kernel_rfl) (by kernel_rfl) (by kernel_rfl)) ?_
  intro W base args ds gs before hval0 hW hcnd _
  have hval : ∀ (j : Nat) t v, Try.f5.params[j]? = some t → args[j]? = some v → Value.okWide Try.prog W .any base t v := hval0
  have hW' := hW
  obtain ⟨pp, pq, hA0, hV, rfl, hfz, hnd⟩ := hW
  have hA : DataW.TrodAll enc Try.prog W 0 (fun _ => true) true Try.f5.params.toList args.toList ds pp := hA0
  rw [Try.params5] at hA hval
  obtain ⟨v0, vs0, d0, ds0, p0, q0, hargs, rfl, rfl, h0, r0⟩ := trodAll_cons hA
  obtain ⟨v1, vs1, d1, ds1, p1, q1, rfl, rfl, rfl, h1, r1⟩ := trodAll_cons r0
  obtain ⟨rfl, rfl, rfl⟩ := trodAll_nil r1
  obtain rfl : args = #[v0, v1] := by cases args; simp_all
  obtain ⟨rfl, rfl⟩ := trodVars_none hV
  obtain ⟨a0, rfl, rfl, rfl, w0⟩ := open_int Try.underlying3 (hval 0 3 v0 rfl rfl) h0
  obtain ⟨a1, rfl, rfl, rfl, w1⟩ := open_int Try.underlying2 (hval 1 2 v1 rfl rfl) h1
  clear hA0 hval0
  simp only [List.append_nil] at hW'
  refine (walk a0 a1 W (bounds_i64 w0) (bounds_i64 w1)).mono fun e W' ⟨he, hg⟩ => ?_
  subst he
  have hb : Below W.heap.size W W' := hg.below (Nat.le_refl _) (by simp)
  exact ⟨_, rfl, _, _, _, [], _, [], hW', trodAll_cons_mk (shut_bool Try.underlying4 _) trodAll_mk0, (trodAll_cons_mk (shut_int Try.underlying3 w0) (trodAll_cons_mk (shut_int Try.underlying2 w1) trodAll_mk0)), rfl, hb.frame _, fun h => by cases h⟩

theorem over : Rows.treeFullRow.holds Try.pinned (OpenSpec.ofChange Rows.treeFullSpec) :=
  OpenClaim.holds_of_wide 5 Try.f5 rfl rfl rfl rfl rfl rfl rfl ⟨rfl, rfl, rfl, rfl, rfl⟩ rfl rfl rfl rfl rfl (by kernel_rfl) Try.func5 (by kernel_rfl)
    (of_decide_eq_true (by kernel_rfl)) (by unfold Func.isWrapper; first | (rw [if_pos (by decide +kernel)]; kernel_rfl) | (rw [if_neg (by decide +kernel)]; exact ⟨rfl, rfl⟩))
    (fun os started H enc _ => lifted os started H enc)

theorem proved : Rows.TreeFullSaid := over
#print axioms proved
end Go.Proofs.Ytmhbiakcadabmaa.treeFull
