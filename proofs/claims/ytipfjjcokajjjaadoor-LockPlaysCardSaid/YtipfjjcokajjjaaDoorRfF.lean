/-
  What is proved here: the document's Take of a thing that is there, where the holder gets it.
  No condition: each lemma names its own.
-/
import Derived.Test.YtipfjjcokajjjaaDoorRfE
set_option linter.unusedVariables false
set_option linter.unusedSimpArgs false
namespace Go.Proofs.YtipfjjcokajjjaaDoor
open Go.RowKit

theorem held_mem {ta tb : RTP} {x : Th} {vh vq : Value} : (vh, x.has) ∈ tHelds (ta ++ (x, vh, vq) :: tb) ∧ (vq, x.q) ∈ tHelds (ta ++ (x, vh, vq) :: tb) :=
  tHelds_at (tv := ta ++ (x, vh, vq) :: tb) (k := ta.length) (y := (x, vh, vq)) (by rw [List.getElem?_append_right (Nat.le_refl _), Nat.sub_self]; rfl)
theorem tv_mid {ta tb : RTP} {y : Th × Value × Value} {k : Nat} (hk : k = ta.length) : (ta ++ y :: tb)[k]? = some y := by subst hk; simp
theorem HeldAt.slice' {W : World} {v : Value} {l : HM} (h : HeldAt W v l) : ∃ p n c, v = .slice p n c ∧ n = l.length := by
  obtain ⟨p, c, e⟩ := h.slice
  exact ⟨p, _, c, e, rfl⟩
theorem open_perm {w W : World} {R : Res} {b : Nat} {p : Option Addr} {n q : Nat} {tv : RTP} {L : List Res} (h : Sep w W (R :: heldsRes (tHelds tv) :: blkRes b (.cells #[.slice p n q] 28 (0, 0)) :: rowRes 71 3 (.slice p n q) n (tCells tv) :: L)) : Sep w W (R :: openR b p n q tv L) :=
  h.perm (List.Perm.cons _ ((List.Perm.swap _ _ _).trans (.cons _ (.swap _ _ _))))

set_option maxRecDepth 100000 in
set_option maxHeartbeats 2000000 in
theorem rtake_gets {w W : World} {L : List Res} {b : Nat} {t : Tab} (hg : Good t) (h : Int) (n : ByteArray) (want : Int) (ha : ¬ (h < 1 ∨ 1000 < h ∨ 64 < n.size ∨ want < 1 ∨ 2 < want)) (hs : Sep w W (refRes b t :: L))
    (hwt : waitsM t h = none) {x : Th} (hx : getT t n = some x) (hm : ¬ want ≤ modeL x.has h) (hgt : gets x h want = true) :
    Calls Tryd.prog 14 #[.pointer (some ⟨b, 0, none⟩), .int .i64 h, .string n, .int .i64 want] W fun e W' => e = .returned (.int .i64 0) ∧ Sep w W' (refRes b (lo t n ++ takeT x h want :: hi t n) :: L) := by
  obtain ⟨ii, II⟩ := info_of Tryd.infoHeld
  have a1 : ¬ h < 1 := by omega
  have a2 : ¬ 1000 < h := by omega
  have a3 : ¬ (64 : Int) < (n.size : Int) := by omega
  have a4 : ¬ want < 1 := by omega
  have a5 : ¬ 2 < want := by omega
  have HW := Lib.hid (rWaits_any hg h hs)
  have HM := Lib.hid (rMode_any hg h n hs)
  have HF := Lib.hid (rfind_at hg.len (find_hit hg hx) hs)
  rw [hwt] at HW
  have hmm : modeM t h n = modeL x.has h := by unfold modeM; rw [hx]
  rw [hmm] at HM
  obtain ⟨hxn, hxt, hsp⟩ := getT_some hg hx
  have hgx := hg.each x hxt
  obtain ⟨p, q, tv, hs0, ht⟩ := ref_open hs
  obtain ⟨ta, vh, vq, tb, rfl, hta, htb⟩ := tv_hit ht hsp
  have hkl : (lo t n).length = ta.length := by rw [← hta, List.length_map]
  obtain ⟨k, hk⟩ : ∃ k, k = ta.length := ⟨_, rfl⟩
  rw [hkl, ← hk] at HF
  have hyk : (ta ++ (x, vh, vq) :: tb)[k]? = some (x, vh, vq) := tv_mid hk
  obtain ⟨g, rfl, ⟨c0, c1, c2⟩, _⟩ := ref_cells hs0 hyk
  have b0 := (ref_tab hs0).1
  have hkN : k < t.length := by
    have h1 := congrArg List.length ht
    rw [List.length_map, List.length_append, List.length_cons] at h1
    omega
  obtain ⟨N, hN⟩ : ∃ N, N = t.length := ⟨_, rfl⟩
  rw [← hN] at b0 hs0 hkN
  have hlN : N ≤ 256 := by rw [hN]; exact hg.len
  obtain ⟨pq, NQ, cq, rfl, hNQ⟩ := (ref_held hs0 hyk).2.slice'
  have hlh := modes_len1 hgx.has
  have HFR := Lib.hid (rfree_any W x.name (.slice pq NQ cq) (ref_held hs0 hyk).1 (by omega) h want)
  have hfr : freeL x.has h want = true := by unfold gets at hgt; simp only [Bool.and_eq_true] at hgt; exact hgt.1
  rw [hfr] at HFR
  have HQ : Hid (0 < modeL x.has h ∨ NQ = 0) := by
    unfold gets at hgt
    simp only [Bool.and_eq_true, Bool.or_eq_true, decide_eq_true_eq, List.isEmpty_iff] at hgt
    rcases hgt.2 with q | q
    · exact .inl q
    · exact .inr (by rw [hNQ, q]; rfl)
  have HEND : Hid (∀ (V : World) (p4 : Option Addr) (q4 : Nat), Sep w V (rowRes 76 2 (.slice p4 ((outL x.has h).length + 1) q4) ((outL x.has h).length + 1) (wCells (outL x.has h) ++ (#[Value.int .i64 h, .int .i64 want] : Array Value).toList) :: openR b (some ⟨g, 0, none⟩) N q (ta ++ (x, vh, .slice pq NQ cq) :: tb) L) →
      Sep w (V.setCell ⟨g, k * 3 + 1, none⟩ (.slice p4 ((outL x.has h).length + 1) q4)) (refRes b (lo t n ++ takeT x h want :: hi t n) :: L)) := by
    intro V p4 q4 hv
    rw [← wCells_snoc] at hv
    have h1 := ref_setHas hv (by rw [List.length_append]; rfl) hk
    have e : takeT x h want = ⟨x.name, outL x.has h ++ [(h, want)], x.q⟩ := by unfold takeT; rw [if_pos hgt]; rfl
    rw [e]
    refine ref_shut h1 ?_ ?_
    · rw [hN]; conv => lhs; rw [hsp]
      rw [List.length_append, List.length_append]; rfl
    · rw [List.map_append, List.map_cons, hta, htb]
  have HOL : Hid ((outL x.has h).length ≤ 1001) := Nat.le_trans (List.length_filter_le _ _) hlh
  have HYK := Lib.hid hyk
  have HS := Lib.hid hs0
  have HLH := Lib.hid hlh
  obtain ⟨md, hmd⟩ : ∃ md, md = modeL x.has h := ⟨_, rfl⟩
  rw [← hmd] at HM hm HQ
  clear hs hs0 hyk hg hgx hxt hxn hsp hta htb hkl hk ht hN hgt hfr hmd hwt hx hmm hlh ha hNQ
  go_enter Tryd.func14, Tryd.ntmps14
  go_upto_region 18 with (first | (go_at_call 19; refine HW.out.mono ?_; rintro e w2 ⟨rfl, rfl⟩; simp only [Option.getD_none, Option.isSome_none]) | (go_at_call 21; refine HM.out.mono ?_; rintro e w2 ⟨rfl, rfl⟩) | (go_at_call 32; refine HF.out.mono ?_; rintro e w2 ⟨rfl, rfl⟩))
  rcases HQ.out with hpos | rfl
  · go_wp2_with (go_at_call 33; refine HFR.out.mono ?_; rintro e w2 ⟨rfl, ho2⟩; have hs2 := HS.out.only ho2; obtain ⟨_, e2, ⟨d0, d1, d2⟩, _⟩ := ref_cells hs2 HYK.out; cases e2; have HWO := Lib.hid (rwithout_any hs2.up2 held_mem.1 (by have := HLH.out; omega) h); clear c0 c1 c2 ho2 hs2)
    have HWO2 := Lib.hid (HWO.out)
    clear HWO
    go_wp2_with (first | (at_builtin; refine wpList_append_sep (w := w) (cs := #[.int .i64 h, .int .i64 want]) (e := 76) rfl (.tmp 132) (.tmp 136) 69 rfl ii _ 2 16 Tryd.underlying69 II.out rfl (by decide) _ _ _ rfl rfl rfl rfl (by simp [Value.oneCell']) HS3.out (by unfold maxLen; have := HOL.out; omega) (by have := HOL.out; omega) ?_; intro p4 q4 w4 hs4; obtain ⟨_, e4, ⟨_, d1, _⟩, ⟨_, f1, _⟩⟩ := ref_cells hs4.tail HYK.out; cases e4; have HS4 := Lib.hid (HEND.out w4 p4 q4 hs4); clear hs4) | (go_at_call 34; refine HWO2.out.mono ?_; rintro e w3 ⟨p3, q3, rfl, hs3⟩; have HS3 := Lib.hid (open_perm hs3); clear hs3 d0 d1 d2))
    go_ret
    exact ⟨rfl, HS4.out⟩
  · by_cases hpos : 0 < md
    · go_wp2_with (go_at_call 33; refine HFR.out.mono ?_; rintro e w2 ⟨rfl, ho2⟩; have hs2 := HS.out.only ho2; obtain ⟨_, e2, ⟨d0, d1, d2⟩, _⟩ := ref_cells hs2 HYK.out; cases e2; have HWO := Lib.hid (rwithout_any hs2.up2 held_mem.1 (by have := HLH.out; omega) h); clear c0 c1 c2 ho2 hs2)
      have HWO2 := Lib.hid (HWO.out)
      clear HWO
      go_wp2_with (first | (at_builtin; refine wpList_append_sep (w := w) (cs := #[.int .i64 h, .int .i64 want]) (e := 76) rfl (.tmp 132) (.tmp 136) 69 rfl ii _ 2 16 Tryd.underlying69 II.out rfl (by decide) _ _ _ rfl rfl rfl rfl (by simp [Value.oneCell']) HS3.out (by unfold maxLen; have := HOL.out; omega) (by have := HOL.out; omega) ?_; intro p4 q4 w4 hs4; obtain ⟨_, e4, ⟨_, d1, _⟩, ⟨_, f1, _⟩⟩ := ref_cells hs4.tail HYK.out; cases e4; have HS4 := Lib.hid (HEND.out w4 p4 q4 hs4); clear hs4) | (go_at_call 34; refine HWO2.out.mono ?_; rintro e w3 ⟨p3, q3, rfl, hs3⟩; have HS3 := Lib.hid (open_perm hs3); clear hs3 d0 d1 d2))
      go_ret
      exact ⟨rfl, HS4.out⟩
    · go_wp2_with (go_at_call 33; refine HFR.out.mono ?_; rintro e w2 ⟨rfl, ho2⟩; have hs2 := HS.out.only ho2; obtain ⟨_, e2, ⟨d0, d1, d2⟩, _⟩ := ref_cells hs2 HYK.out; cases e2; have HWO := Lib.hid (rwithout_any hs2.up2 held_mem.1 (by have := HLH.out; omega) h); clear c0 c1 c2 ho2 hs2)
      have HWO2 := Lib.hid (HWO.out)
      clear HWO
      go_wp2_with (first | (at_builtin; refine wpList_append_sep (w := w) (cs := #[.int .i64 h, .int .i64 want]) (e := 76) rfl (.tmp 132) (.tmp 136) 69 rfl ii _ 2 16 Tryd.underlying69 II.out rfl (by decide) _ _ _ rfl rfl rfl rfl (by simp [Value.oneCell']) HS3.out (by unfold maxLen; have := HOL.out; omega) (by have := HOL.out; omega) ?_; intro p4 q4 w4 hs4; obtain ⟨_, e4, ⟨_, d1, _⟩, ⟨_, f1, _⟩⟩ := ref_cells hs4.tail HYK.out; cases e4; have HS4 := Lib.hid (HEND.out w4 p4 q4 hs4); clear hs4) | (go_at_call 34; refine HWO2.out.mono ?_; rintro e w3 ⟨p3, q3, rfl, hs3⟩; have HS3 := Lib.hid (open_perm hs3); clear hs3 d0 d1 d2))
      go_ret
      exact ⟨rfl, HS4.out⟩

end Go.Proofs.YtipfjjcokajjjaaDoor
