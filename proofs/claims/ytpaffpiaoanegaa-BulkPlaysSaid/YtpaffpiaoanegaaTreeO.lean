/-
  What is proved here: the greatest key beneath a node ((*node).last of package tree).
  No condition: each lemma names its own.
-/
import Derived.Test.YtpaffpiaoanegaaTreeL
set_option linter.unusedVariables false
set_option linter.unusedSimpArgs false
namespace Go.Proofs.Ytpaffpiaoanegaa
open Go.RowKit

theorem results_cell1 {fn : Func} {p : Tmp} {ty : TypeId} (h : fn.results = #[.cell p ty]) (tmps : Array Value) (P : Program) (w : World) :
    (results fn tmps).run P w = ((asAddr (tmps.getD p undef)).run P w).andThen fun a w₁ => (loadVar ty a).run P w₁ := by
  simp only [results, h]
  simp [Sem.run_bind, Result.andThen]

set_option maxRecDepth 100000 in
set_option maxHeartbeats 1000000 in
theorem last_any {fan h p : Nat} {t : T} {W : World} (hn : NodeAt h W p t) (hk : Kd fan h t) (h1 : 1 ≤ t.keys.length) (hfan : 3 ≤ fan) (hf64 : fan ≤ 64) (hlt : t.keys.length < fan) :
    Calls Try.prog 44 #[.pointer (some ⟨p, 0, none⟩)] W fun r W' => r = .returned (.agg #[.string (lastT h t).1, .int .i64 (lastT h t).2]) ∧ Only [] W W' := by
  have HN := Lib.hid hn
  have HK := Lib.hid hk
  clear hn hk
  go_enter Try.func44, Try.ntmps44
  go_wp2_with fail
  go_loopg [0] h (fun k s0 wr => ∃ (p' : Nat) (t' : T), s0 = .pointer (some ⟨p', 0, none⟩) ∧ NodeAt k W p' t' ∧ Kd fan k t' ∧ 1 ≤ t'.keys.length ∧ t'.keys.length < fan ∧ lastT k t' = lastT h t ∧ wr.heap[W.heap.size]? = some (.cells #[.string ⟨#[]⟩, .int .i64 0] 31 (0, 0)) ∧ Only [] W wr)
  case atStart => exact ⟨p, t, rfl, HN.out, HK.out, h1, hlt, rfl, heap_alloc_self, Only.alloc [] W _⟩
  case round =>
    clear HN HK
    obtain ⟨p', t', rfl, hn, hk, h1', hlt', hg, hbb, how⟩ := hrel
    have hpne : p' ≠ W.heap.size := by have := lt_of_block hn.open.choose_spec.choose_spec.choose_spec.choose_spec.choose_spec.2.1; omega
    have HBB := Lib.hid hbb
    have f0 := free_of_block hbb 0
    have f1 := free_of_block hbb 1
    have e0 := cell_of_block hbb 0 (v := .string ⟨#[]⟩) rfl
    have e1 := cell_of_block hbb 1 (v := .int .i64 0) rfl
    clear hbb
    obtain ⟨kp, kq, cp, cq, ps, hpl, hb, hkr, hcr, hsub⟩ := hn.open
    have k0 := (how.cell (block_lt_of_cell (cell_of_block hb 0 (v := .slice kp t'.keys.length kq) rfl)) (by simp)).trans (cell_of_block hb 0 (v := .slice kp t'.keys.length kq) rfl)
    have k1 := (how.cell (block_lt_of_cell (cell_of_block hb 1 (v := .slice cp ps.length cq) rfl)) (by simp)).trans (cell_of_block hb 1 (v := .slice cp ps.length cq) rfl)
    have HOW := Lib.hid how; clear how
    cases gk with
    | zero =>
      have h0 : ps.length = 0 := by rw [hpl, show t'.kids = [] from hk]; rfl
      rw [h0] at k1
      obtain ⟨e, he⟩ : ∃ e, t'.keys[t'.keys.length - 1]? = some e := ⟨_, List.getElem?_eq_getElem (by omega)⟩
      obtain ⟨g, rfl, a1, a2⟩ := keyCells hkr he
      have c1 := (HOW.out.cell (block_lt_of_cell a1) (by simp)).trans a1
      have c2 := (HOW.out.cell (block_lt_of_cell a2) (by simp)).trans a2
      have b1 := a1
      clear a1 a2
      have hv : lastT h t = e := by
        rw [← hg, lastT, getElem!_pos t'.keys _ (by omega)]
        exact (List.getElem?_eq_some_iff.1 he).2
      have HV := Lib.hid hv
      have n1 : ((t'.keys.length : Int) - 1).toNat = t'.keys.length - 1 := by omega
      have n2 : (0 : Int) ≤ (t'.keys.length : Int) - 1 := by omega
      have n3 : t'.keys.length - 1 < t'.keys.length := by omega
      have n4 : (t'.keys.length : Int) - 1 < (t'.keys.length : Int) := by omega
      clear hn hb hkr hcr hsub hk hpl he hv hg
      have hgne : g ≠ W.heap.size := by have := block_lt_of_cell b1; simp only at this; omega
      have mixed : Try.prog.follows .mixedOrders = true := by kernel_rfl
      have HO2 := Lib.hid (HOW.out.trans ((Only.cellAt wr W.heap.size 0 (.string e.1)).trans (Only.cellAt _ W.heap.size 1 (.int .i64 e.2)) (Within.refl _ _)) (fun k hk => by right; simp at hk; omega))
      go_wp2_with fail
      go_region
      all_goals
        go_wp2_with fail
        (try simp only [Exit.inBlock, Exit.then])
        refine bodyPost_ret (v := .agg #[.string e.1, .int .i64 e.2]) ?_ rfl ⟨by rw [HV.out], HO2.out.trans (Only.drew [] _) (Within.nil _ _)⟩
        rw [results_cell1 rfl]
        go_simp
    | succ gk =>
      have hkl := hk.1
      have hi : ps.length - 1 ≤ t'.keys.length := by omega
      obtain ⟨q', hq', hn'⟩ := NodeAt.kid (W := W) (p := p') hpl hk hsub (i := ps.length - 1) hi
      obtain ⟨gc, rfl, a3⟩ := kid_cell hcr hq'
      have c3 := (HOW.out.cell (block_lt_of_cell a3) (by simp)).trans a3
      clear a3
      have hpl0 : 0 < ps.length := by omega
      have hkid := hk.2 t'.kids[ps.length - 1]! (by rw [getElem!_pos t'.kids _ (by omega)]; exact List.getElem_mem _)
      have hv : lastT gk t'.kids[ps.length - 1]! = lastT h t := by rw [← hg, lastT, hpl]
      have HV := Lib.hid hv
      have HN' := Lib.hid hn'
      have HKID := Lib.hid hkid
      have n1 : ((ps.length : Int) - 1).toNat = ps.length - 1 := by omega
      have n2 : (0 : Int) ≤ (ps.length : Int) - 1 := by omega
      have n3 : ps.length - 1 < ps.length := by omega
      have n4 : (ps.length : Int) - 1 < (ps.length : Int) := by omega
      have n5 : (ps.length : Int) ≤ 100 := by omega
      clear hn hb hkr hcr hsub hk hpl hn' hkid hq' hv hg hkl hi
      clear f0 f1 e0 e1
      go_wp2_with fail
      go_region
      all_goals
        go_wp2_with fail
        go_roundg gk
        case measure => omega
        case rel => first | exact ⟨q', _, rfl, HN'.out, HKID.out.1, by have := HKID.out.2.1; unfold least at this; omega, HKID.out.2.2, HV.out, HBB.out, HOW.out.trans (Only.drew [] _) (Within.nil _ _)⟩ | exact ⟨q', _, rfl, HN'.out, HKID.out.1, by have := HKID.out.2.1; unfold least at this; omega, HKID.out.2.2, HV.out, HBB.out, HOW.out.trans (Only.drewN [] _ _) (Within.nil _ _)⟩

end Go.Proofs.Ytpaffpiaoanegaa
