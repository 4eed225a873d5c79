/-
  What is proved here: a key put into a tree (Put of package tree).
  No condition: each lemma names its own.
-/
import Derived.Test.YtpaffpiaoanegaaTreeQ
import Derived.Deep.DeepCutAuto
import Derived.Deep.QuietTactic
import Derived.BigQuiet
set_option linter.unusedVariables false
set_option linter.unusedSimpArgs false
namespace Go.Proofs.Ytpaffpiaoanegaa
open Go.RowKit

theorem putL_length (L : List E) (e : E) : (putL L e).length = L.length + (if here L e.1 then 0 else 1) := by
  have := below_le L e.1
  unfold putL
  split
  · simp
  · simp only [List.length_append, List.length_cons, List.length_take, List.length_drop]; omega

/-- A new block is a row of its cells. -/
theorem Sep.row_full {w W : World} {l : List Res} (h : Sep w W l) (e : TypeId) (size n : Nat) (cs : Array Value) (hn : cs.size = n * size) (hm : n ≤ maxLen) : Sep w (W.alloc (.cells cs e)) (rowRes e size (.slice (some ⟨W.heap.size, 0, none⟩) n n) n cs.toList :: l) :=
  h.made (F := [W.heap.size]) ⟨⟨by simpa using hn, .inr ⟨W.heap.size, n, cs, rfl, Nat.zero_le _, heap_alloc_self, Nat.le_refl _, hm, hn, by rw [List.take_of_length_le (by simp [hn])]⟩⟩, by simp [Value.ownBlock]⟩ (Only.alloc _ _ _) (fun k hk => by right; simp at hk; omega)

set_option maxRecDepth 100000 in
set_option maxHeartbeats 2000000 in
theorem tput_any {w W : World} {l : List Res} {q fan : Nat} {L : List E} (hs : Sep w W (treeRes q fan L :: l)) (key : ByteArray) (n : Int) (hkey : key.size ≤ 4096) (hlen : L.length ≤ 4096) (hok : here L key = true ∨ L.length ≠ 4096) :
    Calls Try.prog 25 #[.pointer (some ⟨q, 0, none⟩), .string key, .int .i64 n] W fun r W' => r = .returned (.tuple #[.bool (!here L key), .int .i64 0]) ∧ Sep w W' (treeRes q fan (putL L (key, n)) :: l) := by
  have h' : ¬ ((4096 : Int) < (key.size : Int)) := by omega
  obtain ⟨⟨p, h, t⟩, hs1, hr, hL, h3, h64⟩ := hs.open
  simp only [treeParts, List.cons_append, List.nil_append] at hs1 hr hL
  have HT := Lib.hid hs.tree
  have b2 := cell_of_block hs1.blk 2 (v := .int .i64 L.length) rfl
  have HB2 := Lib.hid b2
  have HS := Lib.hid hs1
  have HR := Lib.hid hr
  have HL := Lib.hid hL
  clear hs hs1 b2 hr hL
  go_enter Try.func25, Try.ntmps25
  go_wp2_with fail
  refine (get_any HT.out key).mono ?_
  rintro r w1 ⟨rfl, o1⟩
  have k2 := (o1.cell (block_lt_of_cell HB2.out) (by simp)).trans HB2.out
  have HS1 := Lib.hid (HS.out.only o1); clear o1
  have c0 := cell_of_block HS1.out.blk 0 (v := .int .i64 fan) rfl
  have c1 := cell_of_block HS1.out.blk 1 (v := .pointer (some ⟨p, 0, none⟩)) rfl
  have mixed : Try.prog.follows .mixedOrders = true := by kernel_rfl
  rw [getL_some]
  have HC := Lib.hid ((put_any h3 h64 (key, n) h p t w w1.drew _ (HS1.out.up1.drew) HR.out.kd HR.out.sorted HR.out.lt))
  obtain ⟨p1, p2, p3, p4, p5⟩ := putT_ok h3 (key, n) h t HR.out.kd HR.out.sorted HR.out.lt
  rw [HL.out] at p1 p2
  have hlt := HR.out.lt
  generalize hT1 : putT fan h t (key, n) = r at HC p1 p2 p3 p4 p5
  obtain ⟨t1, b⟩ := r
  simp only at HC p1 p2 p3 p4 p5
  have hcond : ∀ (x : Bool), x = here L key → x = true ∨ ¬ ((L.length : Int) = 4096) := by
    intro x hx
    rcases hok with h | h
    · left; rw [hx, h]
    · right; omega
  have HPP := Lib.hid (And.intro p1 (And.intro p2 p3))
  have HT1 := Lib.hid hT1
  have hfan1 : (fan : Int) ≤ 64 := by omega
  clear p1 p2 p3 hT1
  have hb' := HPP.out.2.1
  have hN := putL_length L (key, n)
  simp only at hN
  generalize hx : here L key = x
  rw [hx] at hb' hN
  have hcx := hcond x hx.symm
  have HX := Lib.hid hx
  have HBX := Lib.hid hb'
  clear hcond hx
  have hNb : (((putL L (key, n)).length : Nat) : Int) = (L.length : Int) + (if b then 1 else 0) := by
    subst hb'
    rw [hN]; cases x <;> simp
  obtain ⟨n2, hn2⟩ : ∃ n2 : Int, n2 = (((putL L (key, n)).length : Nat) : Int) := ⟨_, rfl⟩
  rw [← hn2] at hNb
  have HN2 := Lib.hid hn2
  have HNB := Lib.hid hNb
  clear hb' hNb hn2 hN
  have hb2 : x = true ∨ ¬ ((L.length : Int) = 4096) := hcx
  clear hcx
  have FIN : Hid (∀ W4 : World, Sep w W4 (blkRes q (.cells #[.int .i64 fan, .pointer (some ⟨p, 0, none⟩), .int .i64 n2] 86 (0, 0)) :: nodeRes h p t1 :: l) → t1.keys.length ≠ fan → Sep w W4 (treeRes q fan (putL L (key, n)) :: l)) := by
    intro W4 hs4 hfn
    have hroot := rootPut_ok h3 HR.out (key, n)
    unfold rootPut at hroot
    rw [HT1.out] at hroot
    simp only [if_neg hfn] at hroot
    rw [HL.out] at hroot
    refine Sep.close (ps := treeParts q fan (putL L (key, n)).length) (p, h, t1) ?_ ⟨hroot.2, hroot.1, h3, h64⟩
    simp only [treeParts, List.cons_append, List.nil_append]
    rw [← HN2.out]
    exact hs4
  have FIN2 : Hid (∀ (W4 : World) (p2 : Nat), Sep w W4 (blkRes q (.cells #[.int .i64 fan, .pointer (some ⟨p2, 0, none⟩), .int .i64 n2] 86 (0, 0)) :: nodeRes (h + 1) p2 (splitT (.nd [] [t1]) 0) :: l) → t1.keys.length = fan → Sep w W4 (treeRes q fan (putL L (key, n)) :: l)) := by
    intro W4 p2 hs4 hfn
    have hroot := rootPut_ok h3 HR.out (key, n)
    unfold rootPut at hroot
    rw [HT1.out] at hroot
    simp only [if_pos hfn] at hroot
    rw [HL.out] at hroot
    refine Sep.close (ps := treeParts q fan (putL L (key, n)).length) (p2, h + 1, splitT (.nd [] [t1]) 0) ?_ ⟨hroot.2, hroot.1, h3, h64⟩
    simp only [treeParts, List.cons_append, List.nil_append]
    rw [← HN2.out]
    exact hs4
  have HKD := Lib.hid HPP.out.2.2
  clear HT1 HR HPP HT HS HL
  go_upto_region 6 with fail
  go_cut [33] (fun s33 wx => w1 = wx ∧ s33 = .bool false)
  case first =>
    rcases hb2 with h | h
    · subst h
      go_wp2_with fail
      go_meet
      exact ⟨rfl, rfl⟩
    · cases x with
      | true =>
        go_wp2_with fail
        go_meet
        exact ⟨rfl, rfl⟩
      | false =>
        go_wp2_with fail
        go_meet
        exact ⟨rfl, by rw [show ((L.length : Int) == 4096) = false from by rw [beq_eq_false_iff_ne]; exact h]⟩
  case rest =>
  obtain ⟨rfl, rfl⟩ := hcut
  go_upto_region 8 with fail
  go_cut [10] (fun s10 wx => s10 = .bool b ∧ Sep w wx (nodeRes h p t1 :: blkRes q (.cells #[.int .i64 fan, .pointer (some ⟨p, 0, none⟩), .int .i64 L.length] 86 (0, 0)) :: l))
  case first =>
    go_region_with ((go_at_call 37; refine (HC.out).mono ?_; rintro r w4 ⟨rfl, hs4⟩; have HS4 := Lib.hid hs4; clear hs4))
    all_goals
      go_wp2_with fail
      go_meet
      exact ⟨rfl, HS4.out⟩
  case rest =>
    obtain ⟨rfl, hs4⟩ := hcut
    have HS4 := Lib.hid hs4.up1; clear hs4 HC HS1 k2 c0 c1 HB2
    have z2 := cell_of_block HS4.out.blk 2 (v := .int .i64 L.length) rfl
    have f2 := free_of_block HS4.out.blk 2
    go_upto_if 46 with fail
    obtain ⟨wb, hwb⟩ : ∃ wb : World, wb = wc := ⟨_, rfl⟩
    rw [← hwb] at z2 f2 HS4 ⊢
    clear hwb
    go_cut [] (fun wx => Sep w wx (blkRes q (.cells #[.int .i64 fan, .pointer (some ⟨p, 0, none⟩), .int .i64 n2] 86 (0, 0)) :: nodeRes h p t1 :: l))
    case first =>
      cases b with
      | true =>
        have hb : n2 = (L.length : Int) + 1 := by have := HNB.out; simpa using this
        have HB := Lib.hid hb; clear hb
        have HS5 : Hid (Sep w (wb.setCell ⟨q, 2, none⟩ (.int .i64 ((L.length : Int) + 1))) (blkRes q (.cells #[.int .i64 fan, .pointer (some ⟨p, 0, none⟩), .int .i64 ((L.length : Int) + 1)] 86 (0, 0)) :: nodeRes h p t1 :: l)) := HS4.out.store 2 (.int .i64 ((L.length : Int) + 1))
        go_wp2_with fail
        go_meet
        rw [HB.out]
        exact HS5.out
      | false =>
        have hb : n2 = (L.length : Int) := by have := HNB.out; simpa using this
        have HB := Lib.hid hb; clear hb
        go_wp2_with fail
        go_meet
        rw [HB.out]
        exact HS4.out
    case rest =>
      obtain ⟨w5, hw5⟩ : ∃ w5 : World, w5 = wc := ⟨_, rfl⟩
      rw [← hw5] at hcut ⊢
      clear hw5
      have HS5 := Lib.hid hcut; clear hcut HS4 z2 f2
      obtain ⟨kp, kq, cp, cq, ps, hpl, hs6⟩ := HS5.out.up1.nodeOpen
      have y0 : World.cell? w5 ⟨p, 0, none⟩ = some (.slice kp t1.keys.length kq) := cell_of_block hs6.blk 0 (v := .slice kp t1.keys.length kq) rfl
      have x0 : World.cell? w5 ⟨q, 0, none⟩ = some (.int .i64 fan) := cell_of_block HS5.out.blk 0 (v := .int .i64 fan) rfl
      have x1 : World.cell? w5 ⟨q, 1, none⟩ = some (.pointer (some ⟨p, 0, none⟩)) := cell_of_block HS5.out.blk 1 (v := .pointer (some ⟨p, 0, none⟩)) rfl
      clear hs6
      have HPL := Lib.hid hpl; clear hpl
      have HBX2 := Lib.hid (show b = !x from HBX.out)
      by_cases hfn : t1.keys.length = fan
      · have hfn' : ((t1.keys.length : Int) = (fan : Int)) := by omega
        have HFN := Lib.hid hfn; clear hfn
        go_wp2_with fail
        go_quiet (fail)
        have HSV := Lib.hid (HS5.out.only (Only.drewN [] w5 nq))
        generalize hV : w5.drewN nq = V at HSV ⊢
        clear hV HS5 x0 x1 y0
        have x1 : World.cell? V ⟨q, 1, none⟩ = some (.pointer (some ⟨p, 0, none⟩)) := cell_of_block HSV.out.blk 1 (v := .pointer (some ⟨p, 0, none⟩)) rfl
        have HS6 := Lib.hid (((HSV.out.row_full 84 1 1 #[ptrV p] rfl (by unfold maxLen; omega)).alloc #[.slice none 0 0, .slice (some ⟨V.heap.size, 0, none⟩) 1 1] 91))
        rw [show (V.alloc (.cells #[ptrV p] 84)).heap.size = V.heap.size + 1 from by simp] at HS6
        have HS7 := Lib.hid (Sep.nodeShut2 (w := w) (W := (V.alloc (.cells #[ptrV p] 84)).alloc (.cells #[.slice none 0 0, .slice (some ⟨V.heap.size, 0, none⟩) 1 1] 91)) (h := h + 1) (p := V.heap.size + 1) (n := 0) (m := 1) (t := .nd [] [t1]) (kv := .slice none 0 0) (cv := .slice (some ⟨V.heap.size, 0, none⟩) 1 1) (ps := [p]) (l := blkRes q (.cells #[.int .i64 fan, .pointer (some ⟨p, 0, none⟩), .int .i64 n2] 86 (0, 0)) :: l) rfl rfl rfl
          ((HS6.out.row_nil 31 2).reorder (by
            rw [show List.zipWith (subRes (h + 1)) [p] (T.kids (.nd [] [t1])) = [nodeRes h p t1] from rfl, show (#[ptrV p] : Array Value).toList = [p].map ptrV from rfl, show cellsE (T.keys (.nd [] [t1])) = [] from rfl]
            intro x; simp only [List.count_append, List.count_cons, List.count_nil, List.cons_append, List.nil_append, List.append_assoc]; omega)))
        clear HS6
        have hsp := split_any (i := 0) (ca := []) (cb := []) (c := t1) HS7.out rfl rfl (Nat.zero_le _) HKD.out (by have := HFN.out; omega) (by have := HFN.out; omega) (Nat.zero_le _) (by simp)
        rw [show ((0 : Nat) : Int) = (0 : Int) from rfl] at hsp
        have HSP := Lib.hid hsp; clear hsp HS7
        have hc' : ptrV p = .pointer (some ⟨p, 0, none⟩) := rfl
        rw [hc'] at HSP
        clear hc'
        go_wp2_with fail
        refine HSP.out.mono ?_
        rintro r w7 ⟨rfl, hs7⟩
        have HS8 := Lib.hid hs7.up1; clear hs7 HSP x1
        have z1 := cell_of_block HS8.out.blk 1 (v := .pointer (some ⟨p, 0, none⟩)) rfl
        have f1 := free_of_block HS8.out.blk 1
        have HF := Lib.hid (HS8.out.store 1 (.pointer (some ⟨V.heap.size + 1, 0, none⟩)))
        go_wp2_with fail
        go_ret2
        refine ⟨by rw [HX.out, ← HBX.out]; rfl, ?_⟩
        exact FIN2.out _ _ HF.out HFN.out
      · have hfn' : ¬ ((t1.keys.length : Int) = (fan : Int)) := by omega
        go_wp2_with fail
        go_quiet (fail)
        go_wp2_with fail
        go_ret2
        refine ⟨by rw [HX.out, ← HBX.out]; rfl, ?_⟩
        exact FIN.out _ (HS5.out.only (Only.drewN [] _ _)) hfn

end Go.Proofs.Ytpaffpiaoanegaa
