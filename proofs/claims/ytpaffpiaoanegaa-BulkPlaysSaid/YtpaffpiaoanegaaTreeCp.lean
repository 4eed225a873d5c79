/-
  What is proved here: a tree of its own (Copy of package tree).
  No condition: each lemma names its own.
-/
import Derived.Test.YtpaffpiaoanegaaTreeK
import Derived.Test.YtpaffpiaoanegaaLast
import Derived.Deep.RegionHeld3
set_option linter.unusedVariables false
set_option linter.unusedSimpArgs false
namespace Go.Proofs.Ytpaffpiaoanegaa
open Go.RowKit

/-- What came about in new blocks stands beside all that was. -/
theorem Sep.joinNew {w W W' : World} {l : List Res} {R : Res} (h : Sep w W l) (k : Sep W W' [R]) : Sep w W' (R :: l) := by
  obtain ⟨F, ⟨F1, F2, rfl, h1, h2, _⟩, ho, hw⟩ := k
  exact h.made h1 ho (fun x hx => hw x (List.mem_append_left _ hx))

theorem ptr_one1 (q : Nat) : ∀ u ∈ (#[Value.pointer (some ⟨q, 0, none⟩)] : Array Value).toList, u.oneCell' = true := by intro u hu; simp at hu; subst hu; rfl
theorem row_src1 {W : World} {e : TypeId} {size : Nat} {p : Option Addr} {n q : Nat} {xs : List Value} (h : W.ownsRow 0 e size (.slice p n q) n xs) : ∀ j u, xs[j]? = some u → ∃ b o, p = some ⟨b, o, none⟩ ∧ W.cell? ⟨b, o + j, none⟩ = some u := by
  intro j u hu
  obtain ⟨g, h1, h2, _⟩ := ownsRow_cell_of h hu
  exact ⟨g, 0, h1, by rw [Nat.zero_add]; exact h2⟩

set_option maxRecDepth 100000 in
set_option maxHeartbeats 4000000 in
theorem copied_step {fan h : Nat} (hf64 : fan ≤ 64) (ih : ∀ (p : Nat) (c : T) (W : World), (∃ F, (subRes h p c).at' W F) → 0 < h → Kd fan (h - 1) c → c.keys.length < fan → Calls Try.prog 41 #[.pointer (some ⟨p, 0, none⟩)] W fun r W' => ∃ q, r = .returned (.pointer (some ⟨q, 0, none⟩)) ∧ Sep W W' [subRes h q c])
    {p : Nat} {t : T} {W : World} (hn : NodeAt h W p t) (hk : Kd fan h t) (hlt : t.keys.length < fan) :
    Calls Try.prog 41 #[.pointer (some ⟨p, 0, none⟩)] W fun r W' => ∃ q, r = .returned (.pointer (some ⟨q, 0, none⟩)) ∧ Sep W W' [nodeRes h q t] := by
  obtain ⟨ip, IP⟩ := info_of Try.infoNode
  obtain ⟨kp, kq, cp, cq, ps, hpl, hb, hkr, hcr, hsub⟩ := hn.open
  have p0 := cell_of_block hb 0 (v := .slice kp t.keys.length kq) rfl
  have p1 := cell_of_block hb 1 (v := .slice cp ps.length cq) rfl
  have hps : ps.length ≤ 65 := by
    cases h with
    | zero => rw [hpl, show t.kids = [] from hk]; simp
    | succ h => have := hk.1; omega
  have hkid : ∀ c ∈ t.kids, 0 < h ∧ Kd fan (h - 1) c ∧ c.keys.length < fan := by
    intro c hc
    cases h with
    | zero => rw [show t.kids = [] from hk] at hc; cases hc
    | succ h => have := hk.2 c hc; exact ⟨by omega, this.1, this.2.2⟩
  have HB := Lib.hid hb
  have HKR := Lib.hid hkr
  have HCR := Lib.hid hcr
  have HSUB := Lib.hid hsub
  have HPL := Lib.hid hpl
  have HKID := Lib.hid hkid
  have HIH := Lib.hid ih
  clear hb hkr hcr hsub hn hk hpl hkid ih
  go_enter Try.func41, Try.ntmps41
  go_wp2_with fail
  refine (clo_ent (w := W) (news := cellsE t.keys) (cellsE_length _) (row_src1 HKR.out) (cellsE_one _) (by omega) (Sep.nil W)).mono ?_
  rintro r w1 ⟨pk, qk, rfl, hs1⟩
  have o1 := hs1.old
  have HS2 := Lib.hid ((hs1.alloc #[.slice pk t.keys.length qk, .slice none 0 0] 91).row_nil 84 1)
  have p1a := ((o1.trans (Only.alloc [] w1 (.cells #[.slice pk t.keys.length qk, .slice none 0 0] 91)) (Within.nil _ _)).cell (block_lt_of_cell p1) (by simp)).trans p1
  obtain ⟨y, hy⟩ : ∃ y, y = w1.heap.size := ⟨_, rfl⟩
  rw [← hy] at HS2
  have HY := Lib.hid hy
  clear hs1 hy o1
  go_wp2_with fail
  rw [← HY.out]
  clear p1a
  go_loopw [18] (fun s18 wr => ∃ (k : Nat) (pp : Option Addr) (qq : Nat) (qs : List Nat), k ≤ ps.length ∧ s18 = .int .i64 k ∧ qs.length = k ∧ Sep W wr (blkRes y (.cells #[.slice pk t.keys.length qk, .slice pp k qq] 91 (0, 0)) :: rowRes 84 1 (.slice pp k qq) k (qs.map ptrV) :: rowRes 31 2 (.slice pk t.keys.length qk) t.keys.length (cellsE t.keys) :: (List.zipWith (subRes h) qs (t.kids.take k)))) (fun s18 _ => ps.length - (intOf s18).toNat)
  case atStart =>
    refine ⟨0, none, 0, [], Nat.zero_le _, rfl, rfl, ?_⟩
    exact HS2.out.reorder (by rw [List.take_zero, List.zipWith_nil_left]; intro x; simp only [List.count_append, List.count_cons, List.count_nil, List.cons_append, List.nil_append, List.append_assoc, List.map_nil]; omega)
  case round =>
    obtain ⟨k, pp, qq, qs, hk, rfl, hql, hs⟩ := hrel
    have HS := Lib.hid hs
    have HQL := Lib.hid hql
    clear hs hql HS2
    by_cases hlt2 : k < ps.length
    · have hkl : k < t.kids.length := by have := HPL.out; omega
      obtain ⟨c, hc⟩ : ∃ c, t.kids[k]? = some c := ⟨_, List.getElem?_eq_getElem hkl⟩
      obtain ⟨q, hq⟩ : ∃ q, ps[k]? = some q := ⟨_, List.getElem?_eq_getElem hlt2⟩
      obtain ⟨g, rfl, c1⟩ := kid_cell HCR.out hq
      have d1 := (HS.out.old.cell (block_lt_of_cell c1) (by simp)).trans c1
      have hki := HKID.out c (List.mem_of_getElem? hc)
      have hsubk : ∃ F, (subRes h q c).at' wr.drew F := by
        obtain ⟨F, hF⟩ := HSUB.out k q c hq hc
        exact ⟨F, (subRes h q c).only hF (HS.out.old.trans (Only.drew [] wr) (Within.nil _ _)) (by simp)⟩
      have HC := Lib.hid (HIH.out q c wr.drew hsubk hki.1 hki.2.1 hki.2.2)
      have HCC := Lib.hid hc
      have y1 := cell_of_block HS.out.blk 1 (v := .slice pp k qq) rfl
      have hk65 : k + 1 ≤ 65 := by omega
      clear hsubk hki hc hq c1
      have mixed : Try.prog.follows .mixedOrders = true := by kernel_rfl
      go_upto_region 5 with fail
      refine wp_region_last (S := (fun w' => w'.cell? ⟨y, 1, none⟩ = some (.slice pp k qq))) (by kernel_rfl) 11 _ rfl rfl rfl (by kernel_rfl) [10, 9, 8, 7, 6, 5, 4, 3, 2, 1, 0] (by kernel_rfl) (by kernel_rfl) ?_ (fun hHeld => ?_)
      · (try dsimp only); (first | go_keep | assumption)
      simp only [lull, List.setIfInBounds_toArray, List.set_cons_succ, List.set_cons_zero]
      refine wpAnyH_take (i := 0) (v := ?_) rfl (by kernel_rfl) (by kernel_rfl) (by kernel_rfl) (fun _ _ _ h => h) (Or.inl ⟨by rfl, ?_⟩) (by assumption) ?_
      rotate_left
      · (intro w hSw; (try dsimp only at hSw); go_simp; try with_reducible rfl)
      (try simp only [Act.put, List.setIfInBounds_toArray, List.set_cons_zero, List.set_cons_succ])
      refine wpAnyH_take (i := 1) (v := ?_) rfl (by kernel_rfl) (by kernel_rfl) (by kernel_rfl) (fun _ _ _ h => h) (Or.inl ⟨by rfl, ?_⟩) (by assumption) ?_
      rotate_left
      · (intro w hSw; (try dsimp only at hSw); go_simp; try with_reducible rfl)
      (try simp only [Act.put, List.setIfInBounds_toArray, List.set_cons_zero, List.set_cons_succ])
      refine wpAnyH_take (i := 2) (v := ?_) rfl (by kernel_rfl) (by kernel_rfl) (by kernel_rfl) (fun _ _ _ h => h) (Or.inl ⟨by rfl, ?_⟩) (by assumption) ?_
      rotate_left
      · (intro w hSw; (try dsimp only at hSw); go_simp; try with_reducible rfl)
      (try simp only [Act.put, List.setIfInBounds_toArray, List.set_cons_zero, List.set_cons_succ])
      refine wpAnyH_take (i := 3) (v := ?_) rfl (by kernel_rfl) (by kernel_rfl) (by kernel_rfl) (fun _ _ _ h => h) (Or.inl ⟨by rfl, ?_⟩) (by assumption) ?_
      rotate_left
      · (intro w hSw; (try dsimp only at hSw); go_simp; try with_reducible rfl)
      (try simp only [Act.put, List.setIfInBounds_toArray, List.set_cons_zero, List.set_cons_succ])
      refine wpAnyH_take (i := 4) (v := ?_) rfl (by kernel_rfl) (by kernel_rfl) (by kernel_rfl) (fun _ _ _ h => h) (Or.inl ⟨by rfl, ?_⟩) (by assumption) ?_
      rotate_left
      · (intro w hSw; (try dsimp only at hSw); go_simp; try with_reducible rfl)
      (try simp only [Act.put, List.setIfInBounds_toArray, List.set_cons_zero, List.set_cons_succ])
      refine wpAnyH_take (i := 5) (v := ?_) rfl (by kernel_rfl) (by kernel_rfl) (by kernel_rfl) (fun _ _ _ h => h) (Or.inl ⟨by rfl, ?_⟩) (by assumption) ?_
      rotate_left
      · (intro w hSw; (try dsimp only at hSw); go_simp; try with_reducible rfl)
      (try simp only [Act.put, List.setIfInBounds_toArray, List.set_cons_zero, List.set_cons_succ])
      refine wpAnyH_ready (rs := [6]) (by kernel_rfl) (by simp) ?_
      refine AllReadyH.cons rfl (fun K hK => ?_) ?_
      · (go_simp; go_wp2_with ((first | (go_at_call 41; refine HC.out.mono ?_; rintro r w4 ⟨q4, rfl, hs4⟩; have HS4 := Lib.hid (HS.out.drew.joinNew hs4); have y2 := cell_of_block HS4.out.up1.blk 1 (v := .slice pp k qq) rfl; have y3 : (w4.alloc (.cells #[.pointer (some ⟨q4, 0, none⟩)] 84)).cell? ⟨y, 1, none⟩ = some (.slice pp k qq) := Lib.cell?_alloc_some _ y2; have HS5 := Lib.hid ((HS4.out.up2).forget (.cells #[.pointer (some ⟨q4, 0, none⟩)] 84)); clear hs4))))
        refine hK.out _ _ ?_ (fun hH1 => ?_)
        · (try dsimp only); (first | go_keep | assumption)
        clear hK K hHeld
        (try simp only [Act.put, List.setIfInBounds_toArray, List.set_cons_zero, List.set_cons_succ])
        refine wpAnyH_ready (rs := [7]) (by kernel_rfl) (by simp) ?_
        refine AllReadyH.cons rfl (fun K hK => ?_) ?_
        · go_simp
          refine hK.out _ _ ?_ (fun hH2 => ?_)
          · (try dsimp only); (first | go_keep | assumption)
          clear hK K hH1
          (try simp only [Act.put, List.setIfInBounds_toArray, List.set_cons_zero, List.set_cons_succ])
          refine wpAnyH_ready (rs := [8]) (by kernel_rfl) (by simp) ?_
          refine AllReadyH.cons rfl (fun K hK => ?_) ?_
          · (refine step_append_sep (w := W) (e := 84) (B := w4.heap.size) rfl (.tmp 26) (.tmp 29) 89 rfl ip _ 1 8 Try.underlying89 IP.out rfl (by decide) (.slice pp k qq) k (qs.map ptrV) rfl rfl heap_alloc_self rfl (ptr_one1 q4) HS5.out (by unfold maxLen; omega) (by omega) ?_; intro p6 q6 w6 hs6; have HS6 := Lib.hid hs6; have y6 := cell_of_block HS6.out.up2.blk 1 (v := .slice pp k qq) rfl; have fy6 := free_of_block HS6.out.up2.blk 1; clear hs6)
            refine hK.out _ _ ?_ (fun hH3 => ?_)
            · (try dsimp only); (first | go_keep | assumption)
            clear hK K hH2
            (try simp only [Act.put, List.setIfInBounds_toArray, List.set_cons_zero, List.set_cons_succ])
            refine wpAnyH_take (i := 9) (v := ?_) rfl (by kernel_rfl) (by kernel_rfl) (by kernel_rfl) (fun _ _ _ h => h) (Or.inl ⟨by rfl, ?_⟩) (by assumption) ?_
            rotate_left
            · (intro w hSw; (try dsimp only at hSw); go_simp; try with_reducible rfl)
            (try simp only [Act.put, List.setIfInBounds_toArray, List.set_cons_zero, List.set_cons_succ])
            refine wpAnyH_take (i := 10) (v := ?_) rfl (by kernel_rfl) (by kernel_rfl) (by kernel_rfl) (fun _ _ _ h => h) (Or.inl ⟨by rfl, ?_⟩) (by assumption) ?_
            rotate_left
            · (intro w hSw; (try dsimp only at hSw); go_simp; try with_reducible rfl)
            (try simp only [Act.put, List.setIfInBounds_toArray, List.set_cons_zero, List.set_cons_succ])
            refine wpAnyH_take (i := 11) (v := ?_) rfl (by kernel_rfl) (by kernel_rfl) (by kernel_rfl) (fun _ _ _ h => h) (Or.inl ⟨by rfl, ?_⟩) (by assumption) ?_
            rotate_left
            · (intro w hSw; (try dsimp only at hSw); go_simp; try with_reducible rfl)
            (try simp only [Act.put, List.setIfInBounds_toArray, List.set_cons_zero, List.set_cons_succ])
            refine wpAnyH_done (by kernel_rfl) ?_ _
            refine tail_run rfl rfl ?_
            clear hH3
            go_simp
            have hfin : Sep W (w6.setCell ⟨y, 1, none⟩ (.slice p6 (k + 1) q6)) (blkRes y (.cells #[.slice pk t.keys.length qk, .slice p6 (k + 1) q6] 91 (0, 0)) :: rowRes 84 1 (.slice p6 (k + 1) q6) (k + 1) ((qs ++ [q4]).map ptrV) :: rowRes 31 2 (.slice pk t.keys.length qk) t.keys.length (cellsE t.keys) :: (List.zipWith (subRes h) (qs ++ [q4]) (t.kids.take (k + 1)))) := by
              have hst : Sep W (w6.setCell ⟨y, 1, none⟩ (.slice p6 (k + 1) q6)) (blkRes y (.cells #[.slice pk t.keys.length qk, .slice p6 (k + 1) q6] 91 (0, 0)) :: _) := HS6.out.up2.store 1 (.slice p6 (k + 1) q6)
              have e1 : qs.map ptrV ++ (#[Value.pointer (some ⟨q4, 0, none⟩)] : Array Value).toList = (qs ++ [q4]).map ptrV := by rw [List.map_append]; rfl
              have e2 : List.zipWith (subRes h) (qs ++ [q4]) (t.kids.take (k + 1)) = List.zipWith (subRes h) qs (t.kids.take k) ++ [subRes h q4 c] := by
                rw [List.take_add_one, HCC.out, List.zipWith_append (by rw [List.length_take]; have := HQL.out; omega)]; rfl
              rw [e1] at hst
              refine hst.reorder ?_
              rw [e2]
              intro x; simp only [List.count_append, List.count_cons, List.count_nil, List.cons_append, List.nil_append, List.append_assoc]; omega
            have HF := Lib.hid hfin
            clear hfin
            go_wp2_with fail
            go_roundw
            case rel => exact ⟨k + 1, p6, q6, qs ++ [q4], by omega, by go_num, by have := HQL.out; simp; omega, HF.out⟩
            case measure => simp [intOf]; omega
          exact AllReadyH.nil
        exact AllReadyH.nil
      exact AllReadyH.nil
    · have hkk : k = ps.length := by omega
      have HKK := Lib.hid hkk
      clear hkk
      go_wp2_with fail
      go_ret
      refine ⟨y, rfl, ?_⟩
      have hfin := HS.out
      rw [List.take_of_length_le (by have := HPL.out; have := HKK.out; omega)] at hfin
      exact Sep.nodeShut2 (h := h) (p := y) (t := t) (ps := qs) (kv := .slice pk t.keys.length qk) (cv := .slice pp k qq) (n := t.keys.length) (m := k) (l := []) rfl (by rw [HQL.out]) (by have := HQL.out; have := HPL.out; have := HKK.out; omega) (hfin.reorder (by intro x; simp only [List.count_append, List.count_cons, List.count_nil, List.cons_append, List.nil_append, List.append_assoc]; omega))

theorem copied_any {fan : Nat} (hf64 : fan ≤ 64) : ∀ (h p : Nat) (t : T) (W : World), NodeAt h W p t → Kd fan h t → t.keys.length < fan →
    Calls Try.prog 41 #[.pointer (some ⟨p, 0, none⟩)] W fun r W' => ∃ q, r = .returned (.pointer (some ⟨q, 0, none⟩)) ∧ Sep W W' [nodeRes h q t] := by
  intro h
  induction h with
  | zero => intro p t W hn hk hlt; exact copied_step hf64 (fun _ _ _ _ h0 => absurd h0 (Nat.lt_irrefl 0)) hn hk hlt
  | succ h ih => intro p t W hn hk hlt; exact copied_step (h := h + 1) hf64 (fun p c W hF _ hk hlt => ih p c W hF hk hlt) hn hk hlt

set_option maxRecDepth 100000 in
set_option maxHeartbeats 2000000 in
theorem tcopy_any {W : World} {q fan : Nat} {L : List E} (hT : TreeAt W q fan L) :
    Calls Try.prog 29 #[.pointer (some ⟨q, 0, none⟩)] W fun r W' => ∃ q', r = .returned (.pointer (some ⟨q', 0, none⟩)) ∧ Sep W W' [treeRes q' fan L] := by
  obtain ⟨p, h, t, hb, hn, hr, hL, hf1, hf2⟩ := hT.open
  have k0 := cell_of_block hb 0 (v := .int .i64 fan) rfl
  have k1 := cell_of_block hb 1 (v := .pointer (some ⟨p, 0, none⟩)) rfl
  have k2 := cell_of_block hb 2 (v := .int .i64 L.length) rfl
  have HC := Lib.hid (copied_any hf2 h p t W.drew hn.drew hr.kd hr.lt)
  have HB := Lib.hid hb
  have HR := Lib.hid hr
  have HL := Lib.hid hL
  clear hb hn hr hL hT
  have mixed : Try.prog.follows .mixedOrders = true := by kernel_rfl
  go_enter Try.func29, Try.ntmps29
  go_wp2_with fail
  go_region_held3 (fun w' => w'.cell? ⟨q, 0, none⟩ = some (.int .i64 fan) ∧ w'.cell? ⟨q, 1, none⟩ = some (.pointer (some ⟨p, 0, none⟩)) ∧ w'.cell? ⟨q, 2, none⟩ = some (.int .i64 L.length)) (first | go_keep | (refine ⟨?_, ?_, ?_⟩ <;> assumption)) (first | (go_at_call 41; refine HC.out.mono ?_; rintro r w4 ⟨q4, rfl, hs4⟩; have HS4 := Lib.hid hs4; have o4 := (Only.drew [] W).trans hs4.old (Within.nil _ _); have kk0 := (o4.cell (block_lt_of_cell k0) (by simp)).trans k0; have kk1 := (o4.cell (block_lt_of_cell k1) (by simp)).trans k1; have kk2 := (o4.cell (block_lt_of_cell k2) (by simp)).trans k2; clear hs4 o4))
  all_goals
    go_wp2_with fail
    go_ret
    refine ⟨_, rfl, ?_⟩
    have h1 : Sep W w4 [nodeRes h q4 t] := (((Sep.nil W).drew).joinNew HS4.out)
    have h2 := h1.alloc #[.int .i64 fan, .pointer (some ⟨q4, 0, none⟩), .int .i64 L.length] 86
    exact Sep.close (ps := treeParts w4.heap.size fan L.length) (q4, h, t) (by simpa [treeParts] using h2) ⟨HR.out, HL.out, hf1, hf2⟩

end Go.Proofs.Ytpaffpiaoanegaa
