/-
  What is proved here: the reference's device: Write and Flush, in the words of the plain device.
  Conditions: as in Ref04.
-/
import Derived.Test.YtaipjialomjhhaaRef04
namespace Go.Proofs.Ytaipjialomjhhaa
open Go.RowKit

theorem Try.infoHeld : (Try.prog.info? 75).map (fun i => (i.zero, i.size, i.bytes)) = some (some (.agg #[.int .i64 0, .string ⟨#[]⟩]), 2, 24) := by kernel_rfl
theorem Try.undHelds : Try.prog.underlying 71 = some (.slice 75) := by kernel_rfl

theorem Coh.store {d : DevS} (h : d.Coh) (at' : Int) (s : ByteArray) : (d.store at' s).Coh := by
  unfold DevS.Coh at *
  simp only [DevS.store, DevS.did, List.foldl_append, List.foldl_cons, List.foldl_nil, h, DevS.put]

section
variable {w W : World} {b : Nat} {d : DevS} {l : List Res}

theorem ref_stay {v : Int} {at' : Int} {s : ByteArray} (h : Sep w W (refRes b d :: l)) (hv : d.write at' s = (v, d)) : ∀ (e : Ending) (W' : World), e = .returned (.int .i64 v) ∧ W = W' → e = .returned (.int .i64 (d.write at' s).1) ∧ Sep w W' (refRes b (d.write at' s).2 :: l) := by
  rintro e W' ⟨rfl, rfl⟩
  rw [hv]
  exact ⟨rfl, h⟩

set_option maxRecDepth 100000 in
set_option maxHeartbeats 1000000 in
theorem ref_write_no (at' : Int) (s : ByteArray) (h : Sep w W (refRes b d :: l)) (hno : ¬ (0 ≤ at' ∧ at' < d.now.length) ∨ s.size ≠ 512 ∨ d.down = true) :
    Calls Try.prog 23 #[.pointer (some ⟨b, 0, none⟩), .int .i64 at', .string s] W fun e W' => e = .returned (.int .i64 (d.write at' s).1) ∧ Sep w W' (refRes b (d.write at' s).2 :: l) := by
  obtain ⟨x, hs, hwf, hc⟩ := h.open
  have h0 : W.cell? ⟨b, 0, none⟩ = some (.slice x.sp d.now.length x.sq) := cell_of_block (ref_blk hs) 0 rfl
  have hfew := hwf.few
  have HH := Lib.hid h; clear h hs hwf hc
  by_cases hat : 0 ≤ at' ∧ at' < d.now.length
  · by_cases hsz : s.size = 512
    · have hdn : d.down = true := by rcases hno with h | h | h; exact absurd hat h; exact absurd hsz h; exact h
      have hst := ref_stay (v := 41) (at' := at') (s := s) HH.out (by simp only [DevS.write]; rw [if_pos hat, if_pos hsz, if_pos hdn])
      have HST := Lib.hid hst; clear hst hno
      obtain ⟨hat1, hat2⟩ := hat
      have HD := Lib.hid hdn; clear hdn
      have hss' : ((s.size : Int) != 512) = false := by simp [hsz]
      clear hsz
      refine Calls.mono ?_ HST.out
      go_enter Try.func23, Try.ntmps23
      go_wp2_with (go_at_call 32; refine (ref_down HH.out).mono ?_; rintro e w' ⟨rfl, rfl⟩; rw [HD.out])
      go_ret
      exact ⟨rfl, rfl⟩
    · have hst := ref_stay (v := 2) (at' := at') (s := s) HH.out (by simp only [DevS.write]; rw [if_pos hat, if_neg hsz])
      have HST := Lib.hid hst; clear hst hno
      obtain ⟨hat1, hat2⟩ := hat
      have hss' : ((s.size : Int) != 512) = true := by rw [bne_iff_ne]; omega
      clear hsz
      refine Calls.mono ?_ HST.out
      go_enter Try.func23, Try.ntmps23
      go_wp2_with fail
      go_ret
      exact ⟨rfl, rfl⟩
  · have hst := ref_stay (v := 40) (at' := at') (s := s) HH.out (by simp only [DevS.write]; rw [if_neg hat])
    have HST := Lib.hid hst; clear hst hno
    refine Calls.mono ?_ HST.out
    by_cases hneg : at' < 0
    · clear hat
      go_enter Try.func23, Try.ntmps23
      go_wp2_with fail
      go_ret
      exact ⟨rfl, rfl⟩
    · have hge : (d.now.length : Int) ≤ at' := by omega
      clear hat
      go_enter Try.func23, Try.ntmps23
      go_wp2_with fail
      go_ret
      exact ⟨rfl, rfl⟩

set_option maxRecDepth 100000 in
set_option maxHeartbeats 1000000 in
theorem ref_write_yes (k : Nat) (s : ByteArray) (h : Sep w W (refRes b d :: l)) (hk : k < d.now.length) (hsz : s.size = 512) (hdn : d.down = false) (hheld : d.held.length ≤ 1000000) :
    Calls Try.prog 23 #[.pointer (some ⟨b, 0, none⟩), .int .i64 (k : Int), .string s] W fun e W' => e = .returned (.int .i64 (d.write k s).1) ∧ Sep w W' (refRes b (d.write k s).2 :: l) := by
  obtain ⟨x, hs, hwf, hc⟩ := h.open
  have hb := ref_blk hs
  have h0 : W.cell? ⟨b, 0, none⟩ = some (.slice x.sp d.now.length x.sq) := cell_of_block hb 0 rfl
  have h4 : W.cell? ⟨b, 4, none⟩ = some (.int .i64 d.refused) := cell_of_block hb 4 rfl
  have f4 := free_of_block hb 4
  have hfew := hwf.few
  have hat : 0 ≤ (k : Int) ∧ (k : Int) < d.now.length := by omega
  have hr1 := hwf.r1
  have hr2 := hwf.r2
  have HH := Lib.hid h; clear h hb
  have HD := Lib.hid hdn; clear hdn
  have hss' : ((s.size : Int) != 512) = false := by simp [hsz]
  have HZ := Lib.hid hsz; clear hsz
  have HWF := Lib.hid hwf; clear hwf
  have HC := Lib.hid hc; clear hc
  have HS := Lib.hid hs; clear hs
  by_cases hone : d.refused = 1
  · have hval : d.write k s = (42, { d with refused := 0 }) := by simp only [DevS.write]; rw [if_pos hat, if_pos HZ.out, if_neg (by rw [HD.out]; simp), if_pos hone]
    rw [hval]
    have hend : Sep w (W.setCell ⟨b, 4, none⟩ (.int .i64 0)) (refRes b { d with refused := 0 } :: l) := by
      refine Sep.close x (by simpa [refParts, refCells] using HS.out.store 4 (.int .i64 0)) ⟨⟨HWF.out.same, HWF.out.few, HWF.out.now, HWF.out.safe, HWF.out.held, HWF.out.l1, HWF.out.l2, by simp, by simp, HWF.out.o1, HWF.out.o2⟩, HC.out⟩
    have HE := Lib.hid hend; clear hend hval hat
    rw [hone] at h4
    clear hone hr1 hr2
    go_enter Try.func23, Try.ntmps23
    go_wp2_with (go_at_call 32; refine (ref_down HH.out).mono ?_; rintro e w' ⟨rfl, rfl⟩; rw [HD.out])
    go_ret
    exact ⟨rfl, HE.out⟩
  · obtain ⟨r, hr⟩ : ∃ r, r = (if 0 < d.refused then d.refused - 1 else d.refused) := ⟨_, rfl⟩
    have hval : d.write k s = (0, DevS.store { d with refused := r } k s) := by simp only [DevS.write]; rw [if_pos hat, if_pos HZ.out, if_neg (by rw [HD.out]; simp), if_neg hone, hr]
    rw [hval]
    have HR := Lib.hid hr; clear hr hval
    go_enter Try.func23, Try.ntmps23
    go_upto_if 30 with (go_at_call 32; refine (ref_down HH.out).mono ?_; rintro e w' ⟨rfl, rfl⟩; rw [HD.out])
    go_cut [] (fun wx => Sep w wx (refParts b { d with refused := r } x ++ l))
    case first =>
      by_cases h0r : 0 < d.refused
      · have hne : ((d.refused - 1) == 0) = false := by rw [beq_eq_false_iff_ne]; omega
        have hend : Sep w (W.setCell ⟨b, 4, none⟩ (.int .i64 (d.refused - 1))) (refParts b { d with refused := r } x ++ l) := by
          have e := HR.out
          rw [if_pos h0r] at e
          have := HS.out.store 4 (.int .i64 (d.refused - 1))
          rw [← e] at this ⊢
          simpa [refParts, refCells] using this
        have HE := Lib.hid hend; clear hend hone
        go_wp2_with fail
        go_meet
        exact HE.out
      · have hend : Sep w W (refParts b { d with refused := r } x ++ l) := by
          have e := HR.out
          rw [if_neg h0r] at e
          rw [e]
          exact HS.out
        have HE := Lib.hid hend; clear hend hone
        go_wp2_with fail
        go_meet
        exact HE.out
    case rest =>
      have HS1 := Lib.hid hcut; clear hcut
      clear h0 h4 f4
      have hb1 := ref_blk HS1.out
      have g0 : wc.cell? ⟨b, 0, none⟩ = some (.slice x.sp d.now.length x.sq) := cell_of_block hb1 0 rfl
      have g2 : wc.cell? ⟨b, 2, none⟩ = some (.slice x.hp d.held.length x.hq) := cell_of_block hb1 2 rfl
      have hrow : Sep w wc (rowRes 9 1 (.slice x.sp d.now.length x.sq) d.now.length (texts d.now) :: _) := Sep.up1 HS1.out
      obtain ⟨g, hg⟩ := hrow.rowAt (by simp [texts]; omega)
      rw [hg] at g0
      have hrow2 := hrow
      rw [hg] at hrow2
      obtain ⟨gc, gf⟩ := hrow2.rowCell (texts_at d.now k hk)
      generalize d.now.getD k ByteArray.empty = old at *
      have hs2 := hrow2.rowStore k (.string s)
      have hs2' : Sep w (wc.setCell ⟨g, k, none⟩ (.string s)) (rowRes 75 2 (.slice x.hp d.held.length x.hq) d.held.length (heldCells d.held) :: rowRes 9 1 (.slice x.sp d.now.length x.sq) d.now.length (texts (d.now.set k s)) :: blkRes b (.cells (refCells x { d with refused := r }) 73 (0, 0)) :: rowRes 9 1 (.slice x.tp d.safe.length x.tq) d.safe.length (texts d.safe) :: l) := by
        have := hs2.up3
        rw [hg]
        simpa [texts, List.map_set] using this
      have HS2 := Lib.hid hs2'; clear hs2' hs2 hrow hrow2 hb1
      have g2' : (wc.setCell ⟨g, k, none⟩ (.string s)).cell? ⟨b, 2, none⟩ = some (.slice x.hp d.held.length x.hq) := cell_of_block HS2.out.up2.blk 2 rfl
      obtain ⟨ih, IH⟩ := info_of Try.infoHeld
      go_wp2_with (at_builtin; go_must (refine wpList_append_sep (w := w) (e := 75) rfl (.tmp 54) (.tmp 58) 71 rfl ih _ 2 24 Try.undHelds IH.out rfl (by decide) _ d.held.length (heldCells d.held) rfl rfl (by simp) rfl ?one HS2.out (by unfold maxLen; omega) (by omega) ?_))
      case one => exact ⟨rfl, rfl⟩
      intro hp' hq' w5 hs5
      have hs6 := hs5.up2
      have hb5 := hs6.blk
      have e2 : w5.cell? ⟨b, 2, none⟩ = some (.slice x.hp d.held.length x.hq) := cell_of_block hb5 2 rfl
      have e2f := free_of_block hb5 2
      obtain ⟨y, hy⟩ : ∃ y : RefAt, y = { x with hp := hp', hq := hq' } := ⟨_, rfl⟩
      have hs7 : Sep w (w5.setCell ⟨b, 2, none⟩ (.slice hp' (d.held.length + 1) hq')) (refParts b { d with refused := r, now := d.now.set k s, held := d.held ++ [(k, s)] } y ++ l) := by
        have := (hs6.store 2 (.slice hp' (d.held.length + 1) hq'))
        have h2 := this.perm (l' := refParts b { d with refused := r, now := d.now.set k s, held := d.held ++ [(k, s)] } y ++ l) (by
          rw [hy]
          simp only [refParts, refCells, List.length_append, List.length_cons, List.length_nil, List.length_set, heldCells_snoc, hg]
          exact .cons _ ((List.Perm.swap _ _ _).trans (.cons _ (List.Perm.swap _ _ _))))
        exact h2
      have HS7 := Lib.hid hs7; clear hs7 hs6 hs5 hb5
      have hle := DevS.down_left HD.out
      have hl2 := HWF.out.l2
      clear g0 g2 gc gf g2'
      go_wp2_with fail
      refine (ref_ok y HS7.out hle hl2).mono ?_
      rintro e w8 ⟨rfl, hs8⟩
      have HS8 : Hid (Sep w w8 (refRes b (DevS.store { d with refused := r } k s) :: l)) := by
        refine Sep.close y (by simpa [DevS.store] using hs8) ⟨?_, Coh.store (d := { d with refused := r }) HC.out k s⟩
        have hr := HR.out
        refine DevS.Wf.store (d := { d with refused := r }) ⟨HWF.out.same, HWF.out.few, HWF.out.now, HWF.out.safe, HWF.out.held, HWF.out.l1, HWF.out.l2, ?_, ?_, HWF.out.o1, HWF.out.o2⟩ HD.out hat HZ.out
        · show 0 ≤ r; rw [hr]; split <;> omega
        · show r ≤ _; rw [hr]; split <;> omega
      clear hs8
      go_wp2_with fail
      go_ret
      exact ⟨rfl, HS8.out⟩

theorem ref_write (at' : Int) (s : ByteArray) (h : Sep w W (refRes b d :: l)) (hheld : d.held.length ≤ 1000000) :
    Calls Try.prog 23 #[.pointer (some ⟨b, 0, none⟩), .int .i64 at', .string s] W fun e W' => e = .returned (.int .i64 (d.write at' s).1) ∧ Sep w W' (refRes b (d.write at' s).2 :: l) := by
  by_cases hyes : (0 ≤ at' ∧ at' < d.now.length) ∧ s.size = 512 ∧ d.down = false
  · obtain ⟨⟨h1, h2⟩, h3, h4⟩ := hyes
    obtain ⟨k, rfl⟩ : ∃ k : Nat, at' = (k : Int) := ⟨at'.toNat, by omega⟩
    exact ref_write_yes k s h (by omega) h3 h4 hheld
  · refine ref_write_no at' s h ?_
    by_cases h1 : 0 ≤ at' ∧ at' < d.now.length
    · by_cases h2 : s.size = 512
      · refine .inr (.inr ?_)
        cases e : d.down
        · exact absurd ⟨h1, h2, e⟩ hyes
        · rfl
      · exact .inr (.inl h2)
    · exact .inl h1
theorem Try.infoStr : (Try.prog.info? 9).map (fun i => (i.zero, i.size, i.bytes)) = some (some (.string ⟨#[]⟩), 1, 16) := by kernel_rfl

theorem texts_one (l : List ByteArray) : ∀ u ∈ texts l, u.oneCell' = true := by
  intro u hu
  simp only [texts, List.mem_map] at hu
  obtain ⟨x, _, rfl⟩ := hu
  rfl
/-- A row's cells, as an append asks for them. -/
theorem row_src {e : TypeId} {p : Option Addr} {n q : Nat} {xs : List Value} (h : W.ownsRow 0 e 1 (.slice p n q) n xs) {W' : World} (ho : Only [] W W') : ∀ j u, xs[j]? = some u → ∃ b o, p = some ⟨b, o, none⟩ ∧ W'.cell? ⟨b, o + j, none⟩ = some u := by
  intro j u hu
  obtain ⟨g, hg, hc, _⟩ := ownsRow_cell_of h hu
  refine ⟨g, 0, hg, ?_⟩
  rw [Nat.zero_add, ho.cell ?_ (by simp)]
  · exact hc
  · rcases Nat.lt_or_ge g W.heap.size with q | q
    · exact q
    · simp [World.cell?, Array.getElem?_eq_none q] at hc

set_option maxRecDepth 100000 in
set_option maxHeartbeats 1000000 in
theorem ref_flush (h : Sep w W (refRes b d :: l)) (_hheld : d.held.length ≤ 1000000) :
    Calls Try.prog 24 #[.pointer (some ⟨b, 0, none⟩)] W fun e W' => e = .returned (.int .i64 d.flush.1) ∧ Sep w W' (refRes b d.flush.2 :: l) := by
  obtain ⟨x, hs, hwf, hc⟩ := h.open
  have hb := ref_blk hs
  have hfew := hwf.few
  have HH := Lib.hid h; clear h
  cases hdn : d.down
  · have hval : d.flush = (0, DevS.did { d with safe := d.now, held := [] }) := by
      simp only [DevS.flush]
      rw [if_neg (by rw [hdn]; simp), show d.held.foldl DevS.put d.safe = d.now from hc]
    rw [hval]
    have HD := Lib.hid hdn; clear hdn hval
    have hW : (W.alloc (.cells #[] 9)).heap[b]? = some (.cells (refCells x d) 73 (0, 0)) := by rw [heap_alloc_lt (lt_of_block hb)]; exact hb
    have h0 : (W.alloc (.cells #[] 9)).cell? ⟨b, 0, none⟩ = some (.slice x.sp d.now.length x.sq) := cell_of_block hW 0 rfl
    have hrow : Sep w W (rowRes 9 1 (.slice x.sp d.now.length x.sq) d.now.length (texts d.now) :: _) := Sep.up1 hs
    have HSRC := Lib.hid (row_src hrow.row (Only.alloc [] W (.cells #[] 9)))
    have HM := Lib.hid (hs.row_made 9 1)
    have HWF := Lib.hid hwf; clear hwf hb hW hrow hs
    have HC := Lib.hid hc; clear hc
    obtain ⟨is, IS⟩ := info_of Try.infoStr
    go_enter Try.func24, Try.ntmps24
    go_wp2_with (first | (go_at_call 32; refine (ref_down HH.out).mono ?_; rintro e w' ⟨rfl, rfl⟩; rw [HD.out]) | (at_builtin; go_must (refine wpList_append_src (w := w) (e := 9) rfl (.tmp 6) (.tmp 10) 56 rfl is _ 1 16 Try.undStrings IS.out rfl (by decide) _ 0 [] rfl x.sp d.now.length x.sq (texts d.now) rfl (by simp [texts]) HSRC.out (texts_one d.now) HM.out (by unfold maxLen; omega) (by omega) ?_)))
    intro p' q' w5 hs5
    have hs6 := hs5.up1
    have hb5 := hs6.blk
    have e0 : w5.cell? ⟨b, 1, none⟩ = some (.slice x.tp d.safe.length x.tq) := cell_of_block hb5 1 rfl
    have e2 : w5.cell? ⟨b, 2, none⟩ = some (.slice x.hp d.held.length x.hq) := cell_of_block hb5 2 rfl
    have f1 := free_of_block hb5 1
    have f2 := free_of_block hb5 2
    obtain ⟨y, hy⟩ : ∃ y : RefAt, y = { x with tp := p', tq := q', hp := none, hq := 0 } := ⟨_, rfl⟩
    have hs7 : Sep w ((w5.setCell ⟨b, 1, none⟩ (.slice p' d.now.length q')).setCell ⟨b, 2, none⟩ (.slice none 0 0)) (refParts b { d with safe := d.now, held := [] } y ++ l) := by
      have s1 := (hs6.store 1 (.slice p' d.now.length q')).store 2 (.slice none 0 0)
      have s2 := ((s1.up3).tail.up3).tail
      have s3 := (s2.row_nil 75 2).dn3
      have s4 := s3.perm (.cons _ (.swap _ _ _))
      rw [hy]
      exact s4
    have HS7 := Lib.hid hs7; clear hs7 hs6 hs5 hb5 hy
    have hle := DevS.down_left HD.out
    have hl2 := HWF.out.l2
    clear h0
    go_wp2_with fail
    refine (ref_ok y HS7.out hle hl2).mono ?_
    rintro e w8 ⟨rfl, hs8⟩
    have HS8 : Hid (Sep w w8 (refRes b (DevS.did { d with safe := d.now, held := [] }) :: l)) := by
      refine Sep.close y hs8 ⟨?_, rfl⟩
      exact DevS.Wf.did (d := { d with safe := d.now, held := [] }) ⟨rfl, HWF.out.few, HWF.out.now, HWF.out.now, by simp, HWF.out.l1, HWF.out.l2, HWF.out.r1, HWF.out.r2, HWF.out.o1, HWF.out.o2⟩ HD.out
    clear hs8
    go_wp2_with fail
    go_ret
    exact ⟨rfl, HS8.out⟩
  · have hval : d.flush = (41, d) := by simp only [DevS.flush]; rw [if_pos hdn]
    rw [hval]
    have HD := Lib.hid hdn; clear hdn hval hs hb hwf hc
    go_enter Try.func24, Try.ntmps24
    go_wp2_with (go_at_call 32; refine (ref_down HH.out).mono ?_; rintro e w' ⟨rfl, rfl⟩; rw [HD.out])
    go_ret
    exact ⟨rfl, HH.out⟩
end
end Go.Proofs.Ytaipjialomjhhaa
