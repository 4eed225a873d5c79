/-
  What is proved here: what is near a key is the same in both trees ('near' of the statements).
  No condition.
-/
import Derived.Test.YtmhbiakcadabmaaLaw10
set_option linter.unusedVariables false
set_option linter.unusedSimpArgs false
namespace Go.Proofs.Ytmhbiakcadabmaa
open Go.RowKit

set_option maxRecDepth 100000 in
set_option maxHeartbeats 4000000 in
theorem near_any {W : World} {q fan b : Nat} {L : List E} (hT : TreeAt W q fan L) (hR : RefAt W b L) (hl : L.length ≤ 4096) (key : ByteArray) :
    Calls Try.prog 27 #[.pointer (some ⟨q, 0, none⟩), .pointer (some ⟨b, 0, none⟩), .string key] W fun r W' => r = .returned (.bool true) ∧ Only [] W W' := by
  have HT := Lib.hid hT
  have HR := Lib.hid hR
  clear hT hR
  obtain ⟨g, hg⟩ : ∃ g, g = (getL L key).getD 0 := ⟨_, rfl⟩
  obtain ⟨gs, hgs⟩ : ∃ gs, gs = (getL L key).isSome := ⟨_, rfl⟩
  have HG := Lib.hid (And.intro hg hgs)
  clear hg hgs
  obtain ⟨ao, hao⟩ : ∃ ao, ao = atL L key none := ⟨_, rfl⟩
  obtain ⟨bo, hbo⟩ : ∃ bo, bo = befL L key none := ⟨_, rfl⟩
  have HA := Lib.hid hao
  have HBO := Lib.hid hbo
  clear hao hbo
  have mixed : Try.prog.follows .mixedOrders = true := by kernel_rfl
  obtain ⟨p, qq, hb, hrow⟩ := HR.out.open
  have k0 := cell_of_block hb 0 (v := .slice p L.length qq) rfl
  have HK0 := Lib.hid k0
  clear hb hrow k0
  rcases ao with _ | xa
  · rcases bo with _ | xb
    · go_enter Try.func27, Try.ntmps27
      go_wp2_with fail
      refine (get_any HT.out key).mono ?_
      rintro r w1 ⟨rfl, o1⟩
      have O1 := Lib.hid o1; clear o1
      rw [← HG.out.1, ← HG.out.2]
      go_wp2_with fail
      refine (rget_any (HR.out.only O1.out) (by omega) key).mono ?_
      rintro r w2 ⟨rfl, rfl⟩
      rw [← HG.out.1, ← HG.out.2]
      go_wp2_with fail
      refine (at_any (HT.out.only O1.out) key).mono ?_
      rintro r w3 ⟨rfl, o3⟩
      have O3 := Lib.hid (O1.out.trans o3 (Within.nil _ _)); clear o3
      rw [← HA.out]
      simp only [trio]
      go_wp2_with fail
      refine (rAt_any (HR.out.only O3.out) (by omega) key).mono ?_
      rintro r w4 ⟨rfl, o4⟩
      have O4 := Lib.hid (O3.out.trans o4 (Within.nil _ _)); clear o4
      rw [← HA.out]
      simp only [aggE, Option.isSome]
      go_wp2_with fail
      obtain ⟨ba, hba⟩ : ∃ ba, ba = w4.heap.size := ⟨_, rfl⟩
      have hA0 : (w4.alloc (.cells #[.string ⟨#[]⟩, .int .i64 0] 50)).heap[ba]? = some (.cells #[.string ⟨#[]⟩, .int .i64 0] 50 (0, 0)) := by rw [hba]; exact heap_alloc_self
      have O5 := Lib.hid (O4.out.trans (Only.alloc [] w4 (.cells #[.string ⟨#[]⟩, .int .i64 0] 50)) (Within.nil _ _))
      rw [← hba]
      generalize w4.alloc (.cells #[.string ⟨#[]⟩, .int .i64 0] 50) = V at hA0 O5 ⊢
      have HA0 := Lib.hid hA0
      clear hA0 hba
      refine (before_any (HT.out.only O5.out) key).mono ?_
      rintro r w6 ⟨rfl, o6⟩
      have O6 := Lib.hid (O5.out.trans o6 (Within.nil _ _))
      have HA6 := Lib.hid (o6.keeps HA0.out (by simp)); clear o6
      rw [← HBO.out]
      simp only [trio]
      go_wp2_with fail
      refine (rbef_any (HR.out.only O6.out) (by omega) key).mono ?_
      rintro r w7 ⟨rfl, o7⟩
      have O7 := Lib.hid (O6.out.trans o7 (Within.nil _ _))
      have HA7 := Lib.hid (o7.keeps HA6.out (by simp)); clear o7
      rw [← HBO.out]
      simp only [aggE, Option.isSome]
      go_upto_region 7 with fail
      obtain ⟨bb, hbb⟩ : ∃ bb, bb = w7.heap.size := ⟨_, rfl⟩
      have hB0 : (w7.alloc (.cells #[.string ⟨#[]⟩, .int .i64 0] 50)).heap[bb]? = some (.cells #[.string ⟨#[]⟩, .int .i64 0] 50 (0, 0)) := by rw [hbb]; exact heap_alloc_self
      have hA8 : (w7.alloc (.cells #[.string ⟨#[]⟩, .int .i64 0] 50)).heap[ba]? = some (.cells #[.string ⟨#[]⟩, .int .i64 0] 50 (0, 0)) := (Only.alloc [] w7 _).keeps HA7.out (by simp)
      have O8 := Lib.hid (O7.out.trans (Only.alloc [] w7 (.cells #[.string ⟨#[]⟩, .int .i64 0] 50)) (Within.nil _ _))
      rw [← hbb]
      generalize w7.alloc (.cells #[.string ⟨#[]⟩, .int .i64 0] 50) = V2 at hA8 hB0 O8 ⊢
      clear hbb
      have a0 := cell_of_block hA8 0 (v := .string ⟨#[]⟩) rfl
      have a1 := cell_of_block hA8 1 (v := .int .i64 0) rfl
      have b0 := cell_of_block hB0 0 (v := .string ⟨#[]⟩) rfl
      have b1 := cell_of_block hB0 1 (v := .int .i64 0) rfl
      have k0 := (O8.out.cell (block_lt_of_cell HK0.out) (by simp)).trans HK0.out
      clear hA8 hB0
      go_quiet ((go_at_call 23; refine Calls.quiet_of_same ((len_any (HT.out.only (O8.out.trans (Only.drewN [] _ _) (Within.nil _ _)))).mono fun e w' h => ⟨h.1, h.2.symm⟩)))
      go_wp2_with fail
      go_ret
      exact ⟨rfl, O8.out.trans (Only.drewN [] _ _) (Within.nil _ _)⟩
    · go_enter Try.func27, Try.ntmps27
      go_wp2_with fail
      refine (get_any HT.out key).mono ?_
      rintro r w1 ⟨rfl, o1⟩
      have O1 := Lib.hid o1; clear o1
      rw [← HG.out.1, ← HG.out.2]
      go_wp2_with fail
      refine (rget_any (HR.out.only O1.out) (by omega) key).mono ?_
      rintro r w2 ⟨rfl, rfl⟩
      rw [← HG.out.1, ← HG.out.2]
      go_wp2_with fail
      refine (at_any (HT.out.only O1.out) key).mono ?_
      rintro r w3 ⟨rfl, o3⟩
      have O3 := Lib.hid (O1.out.trans o3 (Within.nil _ _)); clear o3
      rw [← HA.out]
      simp only [trio]
      go_wp2_with fail
      refine (rAt_any (HR.out.only O3.out) (by omega) key).mono ?_
      rintro r w4 ⟨rfl, o4⟩
      have O4 := Lib.hid (O3.out.trans o4 (Within.nil _ _)); clear o4
      rw [← HA.out]
      simp only [aggE, Option.isSome]
      go_wp2_with fail
      obtain ⟨ba, hba⟩ : ∃ ba, ba = w4.heap.size := ⟨_, rfl⟩
      have hA0 : (w4.alloc (.cells #[.string ⟨#[]⟩, .int .i64 0] 50)).heap[ba]? = some (.cells #[.string ⟨#[]⟩, .int .i64 0] 50 (0, 0)) := by rw [hba]; exact heap_alloc_self
      have O5 := Lib.hid (O4.out.trans (Only.alloc [] w4 (.cells #[.string ⟨#[]⟩, .int .i64 0] 50)) (Within.nil _ _))
      rw [← hba]
      generalize w4.alloc (.cells #[.string ⟨#[]⟩, .int .i64 0] 50) = V at hA0 O5 ⊢
      have HA0 := Lib.hid hA0
      clear hA0 hba
      refine (before_any (HT.out.only O5.out) key).mono ?_
      rintro r w6 ⟨rfl, o6⟩
      have O6 := Lib.hid (O5.out.trans o6 (Within.nil _ _))
      have HA6 := Lib.hid (o6.keeps HA0.out (by simp)); clear o6
      rw [← HBO.out]
      simp only [trio]
      go_wp2_with fail
      refine (rbef_any (HR.out.only O6.out) (by omega) key).mono ?_
      rintro r w7 ⟨rfl, o7⟩
      have O7 := Lib.hid (O6.out.trans o7 (Within.nil _ _))
      have HA7 := Lib.hid (o7.keeps HA6.out (by simp)); clear o7
      rw [← HBO.out]
      simp only [aggE, Option.isSome]
      go_upto_region 7 with fail
      obtain ⟨bb, hbb⟩ : ∃ bb, bb = w7.heap.size := ⟨_, rfl⟩
      have hB0 : (w7.alloc (.cells #[.string xb.1, .int .i64 xb.2] 50)).heap[bb]? = some (.cells #[.string xb.1, .int .i64 xb.2] 50 (0, 0)) := by rw [hbb]; exact heap_alloc_self
      have hA8 : (w7.alloc (.cells #[.string xb.1, .int .i64 xb.2] 50)).heap[ba]? = some (.cells #[.string ⟨#[]⟩, .int .i64 0] 50 (0, 0)) := (Only.alloc [] w7 _).keeps HA7.out (by simp)
      have O8 := Lib.hid (O7.out.trans (Only.alloc [] w7 (.cells #[.string xb.1, .int .i64 xb.2] 50)) (Within.nil _ _))
      rw [← hbb]
      generalize w7.alloc (.cells #[.string xb.1, .int .i64 xb.2] 50) = V2 at hA8 hB0 O8 ⊢
      clear hbb
      have a0 := cell_of_block hA8 0 (v := .string ⟨#[]⟩) rfl
      have a1 := cell_of_block hA8 1 (v := .int .i64 0) rfl
      have b0 := cell_of_block hB0 0 (v := .string xb.1) rfl
      have b1 := cell_of_block hB0 1 (v := .int .i64 xb.2) rfl
      have k0 := (O8.out.cell (block_lt_of_cell HK0.out) (by simp)).trans HK0.out
      clear hA8 hB0
      go_quiet ((go_at_call 23; refine Calls.quiet_of_same ((len_any (HT.out.only (O8.out.trans (Only.drewN [] _ _) (Within.nil _ _)))).mono fun e w' h => ⟨h.1, h.2.symm⟩)))
      go_wp2_with fail
      go_ret
      exact ⟨rfl, O8.out.trans (Only.drewN [] _ _) (Within.nil _ _)⟩
  · rcases bo with _ | xb
    · go_enter Try.func27, Try.ntmps27
      go_wp2_with fail
      refine (get_any HT.out key).mono ?_
      rintro r w1 ⟨rfl, o1⟩
      have O1 := Lib.hid o1; clear o1
      rw [← HG.out.1, ← HG.out.2]
      go_wp2_with fail
      refine (rget_any (HR.out.only O1.out) (by omega) key).mono ?_
      rintro r w2 ⟨rfl, rfl⟩
      rw [← HG.out.1, ← HG.out.2]
      go_wp2_with fail
      refine (at_any (HT.out.only O1.out) key).mono ?_
      rintro r w3 ⟨rfl, o3⟩
      have O3 := Lib.hid (O1.out.trans o3 (Within.nil _ _)); clear o3
      rw [← HA.out]
      simp only [trio]
      go_wp2_with fail
      refine (rAt_any (HR.out.only O3.out) (by omega) key).mono ?_
      rintro r w4 ⟨rfl, o4⟩
      have O4 := Lib.hid (O3.out.trans o4 (Within.nil _ _)); clear o4
      rw [← HA.out]
      simp only [aggE, Option.isSome]
      go_wp2_with fail
      obtain ⟨ba, hba⟩ : ∃ ba, ba = w4.heap.size := ⟨_, rfl⟩
      have hA0 : (w4.alloc (.cells #[.string xa.1, .int .i64 xa.2] 50)).heap[ba]? = some (.cells #[.string xa.1, .int .i64 xa.2] 50 (0, 0)) := by rw [hba]; exact heap_alloc_self
      have O5 := Lib.hid (O4.out.trans (Only.alloc [] w4 (.cells #[.string xa.1, .int .i64 xa.2] 50)) (Within.nil _ _))
      rw [← hba]
      generalize w4.alloc (.cells #[.string xa.1, .int .i64 xa.2] 50) = V at hA0 O5 ⊢
      have HA0 := Lib.hid hA0
      clear hA0 hba
      refine (before_any (HT.out.only O5.out) key).mono ?_
      rintro r w6 ⟨rfl, o6⟩
      have O6 := Lib.hid (O5.out.trans o6 (Within.nil _ _))
      have HA6 := Lib.hid (o6.keeps HA0.out (by simp)); clear o6
      rw [← HBO.out]
      simp only [trio]
      go_wp2_with fail
      refine (rbef_any (HR.out.only O6.out) (by omega) key).mono ?_
      rintro r w7 ⟨rfl, o7⟩
      have O7 := Lib.hid (O6.out.trans o7 (Within.nil _ _))
      have HA7 := Lib.hid (o7.keeps HA6.out (by simp)); clear o7
      rw [← HBO.out]
      simp only [aggE, Option.isSome]
      go_upto_region 7 with fail
      obtain ⟨bb, hbb⟩ : ∃ bb, bb = w7.heap.size := ⟨_, rfl⟩
      have hB0 : (w7.alloc (.cells #[.string ⟨#[]⟩, .int .i64 0] 50)).heap[bb]? = some (.cells #[.string ⟨#[]⟩, .int .i64 0] 50 (0, 0)) := by rw [hbb]; exact heap_alloc_self
      have hA8 : (w7.alloc (.cells #[.string ⟨#[]⟩, .int .i64 0] 50)).heap[ba]? = some (.cells #[.string xa.1, .int .i64 xa.2] 50 (0, 0)) := (Only.alloc [] w7 _).keeps HA7.out (by simp)
      have O8 := Lib.hid (O7.out.trans (Only.alloc [] w7 (.cells #[.string ⟨#[]⟩, .int .i64 0] 50)) (Within.nil _ _))
      rw [← hbb]
      generalize w7.alloc (.cells #[.string ⟨#[]⟩, .int .i64 0] 50) = V2 at hA8 hB0 O8 ⊢
      clear hbb
      have a0 := cell_of_block hA8 0 (v := .string xa.1) rfl
      have a1 := cell_of_block hA8 1 (v := .int .i64 xa.2) rfl
      have b0 := cell_of_block hB0 0 (v := .string ⟨#[]⟩) rfl
      have b1 := cell_of_block hB0 1 (v := .int .i64 0) rfl
      have k0 := (O8.out.cell (block_lt_of_cell HK0.out) (by simp)).trans HK0.out
      clear hA8 hB0
      go_quiet ((go_at_call 23; refine Calls.quiet_of_same ((len_any (HT.out.only (O8.out.trans (Only.drewN [] _ _) (Within.nil _ _)))).mono fun e w' h => ⟨h.1, h.2.symm⟩)))
      go_wp2_with fail
      go_ret
      exact ⟨rfl, O8.out.trans (Only.drewN [] _ _) (Within.nil _ _)⟩
    · go_enter Try.func27, Try.ntmps27
      go_wp2_with fail
      refine (get_any HT.out key).mono ?_
      rintro r w1 ⟨rfl, o1⟩
      have O1 := Lib.hid o1; clear o1
      rw [← HG.out.1, ← HG.out.2]
      go_wp2_with fail
      refine (rget_any (HR.out.only O1.out) (by omega) key).mono ?_
      rintro r w2 ⟨rfl, rfl⟩
      rw [← HG.out.1, ← HG.out.2]
      go_wp2_with fail
      refine (at_any (HT.out.only O1.out) key).mono ?_
      rintro r w3 ⟨rfl, o3⟩
      have O3 := Lib.hid (O1.out.trans o3 (Within.nil _ _)); clear o3
      rw [← HA.out]
      simp only [trio]
      go_wp2_with fail
      refine (rAt_any (HR.out.only O3.out) (by omega) key).mono ?_
      rintro r w4 ⟨rfl, o4⟩
      have O4 := Lib.hid (O3.out.trans o4 (Within.nil _ _)); clear o4
      rw [← HA.out]
      simp only [aggE, Option.isSome]
      go_wp2_with fail
      obtain ⟨ba, hba⟩ : ∃ ba, ba = w4.heap.size := ⟨_, rfl⟩
      have hA0 : (w4.alloc (.cells #[.string xa.1, .int .i64 xa.2] 50)).heap[ba]? = some (.cells #[.string xa.1, .int .i64 xa.2] 50 (0, 0)) := by rw [hba]; exact heap_alloc_self
      have O5 := Lib.hid (O4.out.trans (Only.alloc [] w4 (.cells #[.string xa.1, .int .i64 xa.2] 50)) (Within.nil _ _))
      rw [← hba]
      generalize w4.alloc (.cells #[.string xa.1, .int .i64 xa.2] 50) = V at hA0 O5 ⊢
      have HA0 := Lib.hid hA0
      clear hA0 hba
      refine (before_any (HT.out.only O5.out) key).mono ?_
      rintro r w6 ⟨rfl, o6⟩
      have O6 := Lib.hid (O5.out.trans o6 (Within.nil _ _))
      have HA6 := Lib.hid (o6.keeps HA0.out (by simp)); clear o6
      rw [← HBO.out]
      simp only [trio]
      go_wp2_with fail
      refine (rbef_any (HR.out.only O6.out) (by omega) key).mono ?_
      rintro r w7 ⟨rfl, o7⟩
      have O7 := Lib.hid (O6.out.trans o7 (Within.nil _ _))
      have HA7 := Lib.hid (o7.keeps HA6.out (by simp)); clear o7
      rw [← HBO.out]
      simp only [aggE, Option.isSome]
      go_upto_region 7 with fail
      obtain ⟨bb, hbb⟩ : ∃ bb, bb = w7.heap.size := ⟨_, rfl⟩
      have hB0 : (w7.alloc (.cells #[.string xb.1, .int .i64 xb.2] 50)).heap[bb]? = some (.cells #[.string xb.1, .int .i64 xb.2] 50 (0, 0)) := by rw [hbb]; exact heap_alloc_self
      have hA8 : (w7.alloc (.cells #[.string xb.1, .int .i64 xb.2] 50)).heap[ba]? = some (.cells #[.string xa.1, .int .i64 xa.2] 50 (0, 0)) := (Only.alloc [] w7 _).keeps HA7.out (by simp)
      have O8 := Lib.hid (O7.out.trans (Only.alloc [] w7 (.cells #[.string xb.1, .int .i64 xb.2] 50)) (Within.nil _ _))
      rw [← hbb]
      generalize w7.alloc (.cells #[.string xb.1, .int .i64 xb.2] 50) = V2 at hA8 hB0 O8 ⊢
      clear hbb
      have a0 := cell_of_block hA8 0 (v := .string xa.1) rfl
      have a1 := cell_of_block hA8 1 (v := .int .i64 xa.2) rfl
      have b0 := cell_of_block hB0 0 (v := .string xb.1) rfl
      have b1 := cell_of_block hB0 1 (v := .int .i64 xb.2) rfl
      have k0 := (O8.out.cell (block_lt_of_cell HK0.out) (by simp)).trans HK0.out
      clear hA8 hB0
      go_quiet ((go_at_call 23; refine Calls.quiet_of_same ((len_any (HT.out.only (O8.out.trans (Only.drewN [] _ _) (Within.nil _ _)))).mono fun e w' h => ⟨h.1, h.2.symm⟩)))
      go_wp2_with fail
      go_ret
      exact ⟨rfl, O8.out.trans (Only.drewN [] _ _) (Within.nil _ _)⟩

end Go.Proofs.Ytmhbiakcadabmaa
