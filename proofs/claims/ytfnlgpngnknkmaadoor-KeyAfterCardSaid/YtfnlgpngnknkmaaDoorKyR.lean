/-
  What is proved here: the document's Split tells a key's values ('splitS'), as the program's does.
  Condition: texts are no longer than a million bytes.
-/
import Derived.Test.YtfnlgpngnknkmaaDoorKyS
import Derived.Test.YtfnlgpngnknkmaaDoorBytes
namespace Go.Proofs.YtfnlgpngnknkmaaDoor
open Go.RowKit Go.Proofs.YtfnlgpngnknkmaaDoor.F Go.Proofs.YtfnlgpngnknkmaaDoorW.PrintWords Go.Proofs.YtfnlgpngnknkmaaDoorW.PrintLast
set_option linter.unusedSimpArgs false
set_option linter.unusedVariables false

theorem Tryd.infoByteK : (Tryd.prog.info? 5).map (fun i => (i.zero, i.size, i.bytes)) = some (some (.int .u8 0), 1, 1) := by kernel_rfl
theorem Tryd.undByteK : Tryd.prog.underlying 5 = some (.int .u8) := by kernel_rfl
theorem Tryd.undStringK : Tryd.prog.underlying 9 = some .string := by kernel_rfl
theorem byteCells_app (l l' : List UInt8) : byteCells (l ++ l') = byteCells l ++ byteCells l' := by simp [byteCells]


theorem add_at0 (b n : Nat) : (⟨b, 0, none⟩ : Addr).add n = ⟨b, n, none⟩ := by unfold Addr.add; split <;> simp_all

def goOn (f : Nat) (acc : List ValD) : Option (List UInt8 × List UInt8) → List S45 × Int
  | none => ([], 11)
  | some (x, r) => if 1024 < x.length then ([], 11) else splitRes (acc ++ [⟨3, 0, ⟨x.toArray⟩⟩]) (splitF f r)
def pre (xs : List UInt8) (o : Option (List UInt8 × List UInt8)) : Option (List UInt8 × List UInt8) := o.map fun r => (xs ++ r.1, r.2)
theorem pre_map (xs : List UInt8) (c : UInt8) (o : Option (List UInt8 × List UInt8)) : pre xs (o.map fun r => (c :: r.1, r.2)) = pre (xs ++ [c]) o := by
  cases o with
  | none => rfl
  | some p => simp [pre]
theorem pre_nil (o : Option (List UInt8 × List UInt8)) : pre [] o = o := by
  cases o with
  | none => rfl
  | some p => simp [pre]

theorem step_text (f : Nat) (acc : List ValD) (t : List UInt8) : splitRes acc (match nextM (3 :: t) with
      | none => none
      | some (v, r) => (splitF f r).map (v :: ·)) = goOn f acc (readText t) := by
  simp only [nextM]
  rw [if_neg (by decide), if_neg (by decide), if_neg (by decide), if_pos trivial]
  cases readText t with
  | none => rfl
  | some p =>
    obtain ⟨x, r⟩ := p
    simp only [goOn]
    by_cases hx : 1024 < x.length
    · rw [if_pos hx, if_pos hx]; rfl
    · rw [if_neg hx, if_neg hx]
      exact splitRes_map _ _ _

theorem run_bytes_any {P : Program} (w : World) (src dst e : TypeId) (p : Option Addr) (l : List UInt8) (c : Nat)
    (hs : P.underlying src = some (.slice e)) (he : P.underlying e = some (.int .u8)) (hd : P.underlying dst = some .string)
    (h : ∀ j x, l[j]? = some x → ∃ g, p = some ⟨g, 0, none⟩ ∧ w.cell? ⟨g, j, none⟩ = some (.int .u8 (x.toNat : Int))) :
    (convert src dst (.slice p l.length c)).run P w = .ok (.string ⟨l.toArray⟩) w := by
  cases p with
  | none =>
    cases l with
    | nil =>
      rw [run_convert_bytes_string w src dst e none _ c hs he hd]
      rfl
    | cons x t => obtain ⟨g, e, _⟩ := h 0 x rfl; cases e
  | some a =>
    refine run_bytes_text w src dst e a l c hs he hd ?_
    intro j x hx
    obtain ⟨g, e, hc⟩ := h j x hx
    cases e
    rw [add_at0]
    exact hc

theorem Sep.head {w W : World} {a : Res} {l : List Res} (h : Sep w W (a :: l)) : Sep w W [a] := by
  obtain ⟨F, ⟨F1, F2, rfl, h1, h2, h3⟩, h4, h5⟩ := h
  exact ⟨F1 ++ [], ⟨F1, [], rfl, h1, rfl, by simp⟩, h4, fun k hk => h5 k (by simp at hk; exact List.mem_append_left _ hk)⟩

def SplitRPost (s : ByteArray) (w : World) (e : Ending) (w' : World) : Prop :=
  ∃ p q, e = .returned (.tuple #[.slice p (splitS s).1.length q, .int .i64 (splitS s).2]) ∧ Sep w w' [rowRes 45 3 (.slice p (splitS s).1.length q) (splitS s).1.length (valCells (splitS s).1)]

theorem rpost_none {s : ByteArray} {w W : World} {l : List Res} (hs : Sep w W l) (h : splitS s = ([], 11)) : SplitRPost s w (.returned (.tuple #[.slice none 0 0, .int .i64 11])) W := by
  unfold SplitRPost
  rw [h]
  exact ⟨none, 0, rfl, (Sep.of_old hs.old).row_nil _ _⟩

set_option maxRecDepth 100000 in
set_option maxHeartbeats 4000000 in
theorem ref_split_any (s : ByteArray) (w : World) (hs : s.size ≤ 1000000) : Calls Tryd.prog 17 #[.string s] w (SplitRPost s w) := by
  by_cases hbig : 4096 < s.size
  · have e : splitS s = ([], 2) := by unfold splitS; rw [if_pos hbig]
    have E := Lib.hid e; clear e
    go_enter Tryd.func17, Tryd.ntmps17
    go_wp2_with fail
    go_ret2
    unfold SplitRPost
    rw [E.out]
    exact ⟨none, 0, rfl, (Sep.nil w).row_nil _ _⟩
  · have e : splitS s = splitRes [] (splitF s.size s.data.toList) := by unfold splitS; rw [if_neg hbig]
    have E := Lib.hid e; clear e
    obtain ⟨iv, IV⟩ := info_of Tryd.infoVal
    obtain ⟨ib, IB⟩ := info_of Tryd.infoByteK
    have hsm : s.size ≤ 4096 := by omega
    clear hbig hs
    go_enter Tryd.func17, Tryd.ntmps17
    go_wp2_with fail
    go_loopw [4, 5] (fun s4 s5 wr => ∃ (n f : Nat) (acc : List ValD) (p : Option Addr) (q : Nat), n ≤ s.size ∧ s.size - n ≤ f ∧ acc.length ≤ n ∧ s5 = .int .i64 n ∧ s4 = .slice p acc.length q ∧ Sep w wr [rowRes 45 3 (.slice p acc.length q) acc.length (valCells (acc.map sd))] ∧ splitRes acc (splitF f (s.data.toList.drop n)) = splitS s) (fun _ s5 _ => s.size - (intOf s5).toNat)
    case atStart => exact ⟨0, s.size, [], none, 0, by omega, by omega, by simp, rfl, rfl, (Sep.nil w).row_nil _ _, by rw [E.out]; simp⟩
    case round =>
      clear E
      obtain ⟨n, f, acc, p, q, hn, hf, ha, rfl, rfl, hsep, hres⟩ := hrel
      have HSEP := Lib.hid hsep; clear hsep
      by_cases hlt : n < s.size
      · obtain ⟨f, rfl⟩ : ∃ m, f = m + 1 := ⟨f - 1, by omega⟩
        obtain ⟨b, hb, _, hidx⟩ := bt_cons hlt
        rw [splitF_succ, hb] at hres
        simp only at hres
        clear hb
        have hbl := b.toNat_lt
        by_cases b0 : b = 0
        · subst b0
          have hres2 : splitRes (acc ++ [(⟨0, 0, ⟨#[]⟩⟩ : ValD)]) (splitF f (s.data.toList.drop (n + 1))) = splitS s := by rw [← hres]; exact (splitRes_map _ _ _).symm
          have HR := Lib.hid hres2; clear hres hres2
          go_wp2_with (at_builtin; go_must (refine wpList_append_sep (e := 45) (w := w) (l := []) rfl (.tmp 131) (.tmp 133) 22 rfl iv _ 3 32 Tryd.underlying22 IV.out rfl (by decide) _ acc.length (valCells (acc.map sd)) rfl rfl (by simp) rfl ?one (HSEP.out.forget _) (by unfold maxLen; omega) (by omega) ?_))
          case one => simp [Value.oneCell']
          intro p' q' w' hs'
          have HS' : Hid (Sep w w' [rowRes 45 3 (.slice p' (acc.length + 1) q') (acc.length + 1) (valCells ((acc ++ [(⟨0, 0, ⟨#[]⟩⟩ : ValD)]).map sd))]) := by
            rw [List.map_append, valCells_append]
            exact hs'
          clear hs'
          go_wp2_with fail
          go_roundw
          case rel => exact ⟨n + 1, f, acc ++ [(⟨0, 0, ⟨#[]⟩⟩ : ValD)], p', q', by omega, by omega, by simp; omega, by go_num, by simp, by simpa using HS'.out, HR.out⟩
          case measure => simp [intOf]; omega
        · by_cases b1 : b = 1
          · subst b1
            by_cases h2 : n + 1 < s.size
            · obtain ⟨c, hc, _, hidc⟩ := bt_cons h2
              have hcl := c.toNat_lt
              by_cases hc1 : 1 < c.toNat
              · have hres2 : splitS s = ([], 11) := by
                  rw [← hres, hc]
                  simp only [nextM]
                  rw [if_neg (by decide), if_pos trivial, if_pos hc1]
                  rfl
                have HR := Lib.hid hres2; clear hres hres2 hc
                go_wp2_with fail
                go_ret2
                exact rpost_none (HSEP.out.forget _) HR.out
              · have hres2 : splitRes (acc ++ [(⟨1, (c.toNat : Int), ⟨#[]⟩⟩ : ValD)]) (splitF f (s.data.toList.drop (n + 1 + 1))) = splitS s := by
                  rw [← hres, hc]
                  simp only [nextM]
                  rw [if_neg (by decide), if_pos trivial, if_neg hc1]
                  exact (splitRes_map _ _ _).symm
                have HR := Lib.hid hres2; clear hres hres2 hc
                go_wp2_with (at_builtin; go_must (refine wpList_append_sep (e := 45) (w := w) (l := []) rfl (.tmp 131) (.tmp 133) 22 rfl iv _ 3 32 Tryd.underlying22 IV.out rfl (by decide) _ acc.length (valCells (acc.map sd)) rfl rfl (by simp) rfl ?one (HSEP.out.forget _) (by unfold maxLen; omega) (by omega) ?_))
                case one => simp [Value.oneCell']
                intro p' q' w' hs'
                have HS' : Hid (Sep w w' [rowRes 45 3 (.slice p' (acc.length + 1) q') (acc.length + 1) (valCells ((acc ++ [(⟨1, (c.toNat : Int), ⟨#[]⟩⟩ : ValD)]).map sd))]) := by
                  rw [List.map_append, valCells_append]
                  exact hs'
                clear hs'
                go_wp2_with fail
                go_roundw
                case rel => exact ⟨n + 1 + 1, f, acc ++ [(⟨1, (c.toNat : Int), ⟨#[]⟩⟩ : ValD)], p', q', by omega, by omega, by simp; omega, by go_num, by simp, by simpa using HS'.out, HR.out⟩
                case measure => simp [intOf]; omega
            · have hres2 : splitS s = ([], 11) := by rw [← hres, drop_all (s := s) (n := n + 1) (by omega)]; rfl
              have HR := Lib.hid hres2; clear hres hres2
              go_wp2_with fail
              go_ret2
              exact rpost_none (HSEP.out.forget _) HR.out
          · by_cases b2 : b = 2
            · subst b2
              by_cases h8 : s.size < n + 9
              · have hres2 : splitS s = ([], 11) := by
                  rw [← hres]
                  simp only [nextM]
                  rw [if_neg (by decide), if_neg (by decide), if_pos trivial, if_pos (by rw [drop_len]; omega)]
                  rfl
                have HR := Lib.hid hres2; clear hres hres2
                go_wp2_with fail
                go_ret2
                exact rpost_none (HSEP.out.forget _) HR.out
              · have hres2 : splitRes (acc ++ [(⟨2, (numL ((s.data.toList.drop (n + 1)).take 8) : Int) - 9223372036854775808, ⟨#[]⟩⟩ : ValD)]) (splitF f (s.data.toList.drop (n + 9))) = splitS s := by
                  rw [← hres]
                  simp only [nextM]
                  rw [if_neg (by decide), if_neg (by decide), if_pos trivial, if_neg (by rw [drop_len]; omega), List.drop_drop]
                  exact (splitRes_map _ _ _).symm
                have HR := Lib.hid hres2; clear hres hres2
                have h8' : ¬ (s.size : Int) - ((n : Int) + 1) < 8 := by omega
                go_wp2_with fail
                obtain ⟨wo, rfl⟩ : ∃ wo : World, wo = wr := ⟨_, rfl⟩
                go_loop [7, 8] (fun s7 s8 => ∃ j : Nat, j ≤ 8 ∧ s7 = .int .u64 (numL ((s.data.toList.drop (n + 1)).take j) : Int) ∧ s8 = .int .i64 j) (fun _ s8 => 8 - (intOf s8).toNat)
                case atStart => exact ⟨0, by omega, rfl, rfl⟩
                case round =>
                  obtain ⟨j, hj, rfl, rfl⟩ := hrel
                  by_cases hjlt : j < 8
                  · obtain ⟨b, hbd, hbt, hidxb⟩ := bt_cons (s := s) (n := n + 1 + j) (by omega)
                    have hbd2 := b.toNat_lt
                    have hbnd := pow256 (l := (s.data.toList.drop (n + 1)).take j) (Nat.le_trans (List.length_take_le _ _) (by omega))
                    have hstep := numL_snoc ((s.data.toList.drop (n + 1)).take j) b
                    rw [← take_snoc hbd] at hstep
                    have HS := Lib.hid hstep; clear hstep hbd hbt
                    go_wp2_with fail
                    go_round
                    case rel => exact ⟨j + 1, by omega, by rw [HS.out]; go_num, by go_num⟩
                    case measure => simp [intOf]; omega
                  · obtain rfl : j = 8 := by omega
                    have htop := top_bit (x := numL ((s.data.toList.drop (n + 1)).take 8)) (Nat.lt_of_lt_of_le (numL_lt _) (Nat.pow_le_pow_right (n := 256) (by decide) (List.length_take_le 8 _)))
                    go_wp2_with (at_builtin; go_must (refine wpList_append_sep (e := 45) (w := w) (l := []) rfl (.tmp 131) (.tmp 133) 22 rfl iv _ 3 32 Tryd.underlying22 IV.out rfl (by decide) _ acc.length (valCells (acc.map sd)) rfl rfl (by simp) rfl ?one (HSEP.out.forget _) (by unfold maxLen; omega) (by omega) ?_))
                    case one => simp [Value.oneCell']
                    intro p' q' w' hs'
                    have HS' : Hid (Sep w w' [rowRes 45 3 (.slice p' (acc.length + 1) q') (acc.length + 1) (valCells ((acc ++ [(⟨2, (numL ((s.data.toList.drop (n + 1)).take 8) : Int) - 9223372036854775808, ⟨#[]⟩⟩ : ValD)]).map sd))]) := by
                      rw [List.map_append, valCells_append]
                      exact hs'
                    clear hs'
                    go_wp2_with fail
                    go_roundw
                    case rel => exact ⟨n + 9, f, acc ++ [(⟨2, (numL ((s.data.toList.drop (n + 1)).take 8) : Int) - 9223372036854775808, ⟨#[]⟩⟩ : ValD)], p', q', by omega, by omega, by simp; omega, by go_num, by simp, by simpa using HS'.out, HR.out⟩
                    case measure => simp [intOf]; omega
            · by_cases b3 : b = 3
              · subst b3
                have hres2 : goOn f acc (pre [] (readText (s.data.toList.drop (n + 1)))) = splitS s := by rw [pre_nil]; exact (step_text f acc _).symm.trans hres
                have HR := Lib.hid hres2; clear hres hres2
                clear b0 b1 b2
                go_wp2_with fail
                obtain ⟨wo, rfl⟩ : ∃ wo : World, wo = wr := ⟨_, rfl⟩
                go_loopw [5, 9] (fun s5 s9 wq => ∃ (m : Nat) (xs : List UInt8) (p2 : Option Addr) (q2 : Nat), n + 1 ≤ m ∧ m ≤ s.size ∧ xs.length + n ≤ m ∧ s5 = .int .i64 m ∧ s9 = .slice p2 xs.length q2 ∧ Sep w wq [rowRes 5 1 (.slice p2 xs.length q2) xs.length (byteCells xs), blkRes wo.heap.size (.cells #[.int .i64 3, .int .i64 0, .string ⟨#[]⟩] 45 (0, 0)), rowRes 45 3 (.slice p acc.length q) acc.length (valCells (acc.map sd))] ∧ goOn f acc (pre xs (readText (s.data.toList.drop m))) = splitS s) (fun s5 _ _ => s.size - (intOf s5).toNat)
                case atStart => exact ⟨n + 1, [], none, 0, by omega, by omega, by simp, by go_num, rfl, (HSEP.out.alloc _ _).row_nil _ _, HR.out⟩
                case round =>
                  clear HR HSEP
                  obtain ⟨m, xs, p2, q2, hm1, hm2, hxl, rfl, rfl, hs2, hr2⟩ := hrel
                  have HS2 := Lib.hid hs2; clear hs2
                  by_cases hml : m < s.size
                  · obtain ⟨c, hc, _, hidc⟩ := bt_cons hml
                    have hcl := c.toNat_lt
                    rw [hc] at hr2
                    by_cases c0 : c = 0
                    · subst c0
                      by_cases hm3 : m + 1 < s.size
                      · obtain ⟨d, hd, _, hidd⟩ := bt_cons hm3
                        have hdl := d.toNat_lt
                        rw [hd, readText_zero] at hr2
                        clear hc hd
                        by_cases d1 : d = 1
                        · subst d1
                          rw [if_pos rfl] at hr2
                          have hr3 : goOn f acc (some (xs, s.data.toList.drop (m + 1 + 1))) = splitS s := by rw [← hr2]; simp [pre]
                          clear hr2
                          have HB0 := HS2.out.up1.blk
                          have k0 := cell_of_block HB0 0 (v := .int .i64 3) rfl
                          have k1 := cell_of_block HB0 1 (v := .int .i64 0) rfl
                          have k2 := cell_of_block HB0 2 (v := .string ⟨#[]⟩) rfl
                          have kf := fun i => free_of_block HB0 i
                          have hconv := run_bytes_any (P := Tryd.prog) wr 47 9 5 p2 xs q2 Tryd.underlying47 Tryd.undByteK Tryd.undStringK (fun j x hx => by
                            obtain ⟨g, e, h1, _⟩ := ownsRow_cell_of HS2.out.row (j := j) (u := .int .u8 (x.toNat : Int)) (by simp only [byteCells, List.getElem?_map, hx]; rfl)
                            exact ⟨g, e, h1⟩)
                          have HB := Lib.hid HB0; clear HB0
                          by_cases hx : 1024 < xs.length
                          · have hr4 : splitS s = ([], 11) := by rw [← hr3]; simp only [goOn]; rw [if_pos hx]
                            have HR := Lib.hid hr4; clear hr3 hr4
                            go_wp2_with fail
                            go_ret2
                            exact rpost_none (HS2.out.up1.store 2 (.string ⟨xs.toArray⟩)) HR.out
                          · have hr4 : splitRes (acc ++ [(⟨3, 0, ⟨xs.toArray⟩⟩ : ValD)]) (splitF f (s.data.toList.drop (m + 1 + 1))) = splitS s := by rw [← hr3]; simp only [goOn]; rw [if_neg hx]
                            have HR := Lib.hid hr4; clear hr3 hr4
                            have HS3 := Lib.hid ((HS2.out.up1.store 2 (.string ⟨xs.toArray⟩)).up2)
                            have hxs : ((⟨xs.toArray⟩ : ByteArray).size) = xs.length := by show xs.toArray.size = _; simp
                            go_wp2_with (at_builtin; go_must (refine wpList_append_sep (e := 45) (w := w) (l := _) rfl (.tmp 131) (.tmp 133) 22 rfl iv _ 3 32 Tryd.underlying22 IV.out rfl (by decide) _ acc.length (valCells (acc.map sd)) rfl rfl (by simp) rfl ?one HS3.out (by unfold maxLen; omega) (by omega) ?_))
                            case one => simp [Value.oneCell']
                            intro p' q' w' hs'
                            have HS' : Hid (Sep w w' [rowRes 45 3 (.slice p' (acc.length + 1) q') (acc.length + 1) (valCells ((acc ++ [(⟨3, 0, ⟨xs.toArray⟩⟩ : ValD)]).map sd))]) := by
                              rw [List.map_append, valCells_append]
                              exact hs'.head
                            clear hs'
                            go_wp2_with fail
                            go_roundw
                            case rel => exact ⟨m + 1 + 1, f, acc ++ [(⟨3, 0, ⟨xs.toArray⟩⟩ : ValD)], p', q', by omega, by omega, by simp; omega, by go_num, by simp, by simpa using HS'.out, HR.out⟩
                            case measure => simp [intOf]; omega
                        · rw [if_neg d1] at hr2
                          by_cases d2 : d = 255
                          · subst d2
                            rw [if_pos rfl, pre_map] at hr2
                            have HR := Lib.hid hr2; clear hr2
                            clear d1
                            go_wp2_with (at_builtin; go_must (refine wpList_append_sep (e := 5) (w := w) (l := [blkRes wo.heap.size (.cells #[.int .i64 3, .int .i64 0, .string ⟨#[]⟩] 45 (0, 0)), rowRes 45 3 (.slice p acc.length q) acc.length (valCells (acc.map sd))]) rfl (.tmp 122) (.tmp 123) 47 rfl ib _ 1 1 Tryd.underlying47 IB.out rfl (by decide) _ xs.length (byteCells xs) rfl rfl (by simp) rfl ?two HS2.out (by unfold maxLen; omega) (by omega) ?_))
                            case two => simp [Value.oneCell']
                            intro p' q' w' hs'
                            have HS' : Hid (Sep w w' [rowRes 5 1 (.slice p' (xs.length + 1) q') (xs.length + 1) (byteCells (xs ++ [0])), blkRes wo.heap.size (.cells #[.int .i64 3, .int .i64 0, .string ⟨#[]⟩] 45 (0, 0)), rowRes 45 3 (.slice p acc.length q) acc.length (valCells (acc.map sd))]) := by
                              rw [byteCells_app]
                              exact hs'
                            clear hs'
                            go_wp2_with fail
                            go_roundw
                            case rel => exact ⟨m + 1 + 1, xs ++ [0], p', q', by omega, by omega, by simp; omega, by go_num, by simp, by simpa using HS'.out, HR.out⟩
                            case measure => simp [intOf]; omega
                          · rw [if_neg d2] at hr2
                            have HR := Lib.hid (show splitS s = ([], 11) from hr2.symm); clear hr2
                            have n1 : d.toNat ≠ 1 := fun e => d1 (UInt8.toNat.inj e)
                            have n2 : d.toNat ≠ 255 := fun e => d2 (UInt8.toNat.inj e)
                            have e1 : ((d.toNat : Int) == 1) = false := by rw [beq_eq_false_iff_ne]; omega
                            have e2 : ((d.toNat : Int) != 255) = true := by rw [bne_iff_ne]; omega
                            clear d1 d2
                            go_wp2_with fail
                            go_ret2
                            exact rpost_none HS2.out HR.out
                      · have hr3 : splitS s = ([], 11) := by rw [← hr2, drop_all (s := s) (n := m + 1) (by omega)]; rfl
                        have HR := Lib.hid hr3; clear hr2 hr3 hc
                        go_wp2_with fail
                        go_ret2
                        exact rpost_none HS2.out HR.out
                    · rw [readText_cons c0, pre_map] at hr2
                      have HR := Lib.hid hr2; clear hr2 hc
                      have n1 : c.toNat ≠ 0 := fun e => c0 (UInt8.toNat.inj e)
                      have e1 : ((c.toNat : Int) == 0) = false := by rw [beq_eq_false_iff_ne]; omega
                      have e2 : ((c.toNat : Int) != 0) = true := by rw [bne_iff_ne]; omega
                      clear c0
                      go_wp2_with (at_builtin; go_must (refine wpList_append_sep (e := 5) (w := w) (l := [blkRes wo.heap.size (.cells #[.int .i64 3, .int .i64 0, .string ⟨#[]⟩] 45 (0, 0)), rowRes 45 3 (.slice p acc.length q) acc.length (valCells (acc.map sd))]) rfl (.tmp 97) (.tmp 101) 47 rfl ib _ 1 1 Tryd.underlying47 IB.out rfl (by decide) _ xs.length (byteCells xs) rfl rfl (by simp) rfl ?two HS2.out (by unfold maxLen; omega) (by omega) ?_))
                      case two => simp [Value.oneCell']
                      intro p' q' w' hs'
                      have HS' : Hid (Sep w w' [rowRes 5 1 (.slice p' (xs.length + 1) q') (xs.length + 1) (byteCells (xs ++ [c])), blkRes wo.heap.size (.cells #[.int .i64 3, .int .i64 0, .string ⟨#[]⟩] 45 (0, 0)), rowRes 45 3 (.slice p acc.length q) acc.length (valCells (acc.map sd))]) := by
                        rw [byteCells_app]
                        exact hs'
                      clear hs'
                      go_wp2_with fail
                      go_roundw
                      case rel => exact ⟨m + 1, xs ++ [c], p', q', by omega, by omega, by simp; omega, by go_num, by simp, by simpa using HS'.out, HR.out⟩
                      case measure => simp [intOf]; omega
                  · have hr3 : splitS s = ([], 11) := by rw [← hr2, drop_all (s := s) (n := m) (by omega)]; rfl
                    have HR := Lib.hid hr3; clear hr2 hr3
                    go_wp2_with fail
                    go_ret2
                    exact rpost_none HS2.out HR.out
              · have hres2 : splitS s = ([], 11) := by
                  rw [← hres]
                  simp only [nextM]
                  rw [if_neg b0, if_neg b1, if_neg b2, if_neg b3]
                  rfl
                have HR := Lib.hid hres2; clear hres hres2
                have n0 : b.toNat ≠ 0 := fun e => b0 (UInt8.toNat.inj e)
                have n1 : b.toNat ≠ 1 := fun e => b1 (UInt8.toNat.inj e)
                have n2 : b.toNat ≠ 2 := fun e => b2 (UInt8.toNat.inj e)
                have n3 : b.toNat ≠ 3 := fun e => b3 (UInt8.toNat.inj e)
                have e0 : ((b.toNat : Int) == 0) = false := by rw [beq_eq_false_iff_ne]; omega
                have e1 : ((b.toNat : Int) == 1) = false := by rw [beq_eq_false_iff_ne]; omega
                have e2 : ((b.toNat : Int) == 2) = false := by rw [beq_eq_false_iff_ne]; omega
                have e3 : ((b.toNat : Int) == 3) = false := by rw [beq_eq_false_iff_ne]; omega
                clear b0 b1 b2 b3
                go_wp2_with fail
                go_ret2
                exact rpost_none (HSEP.out.forget _) HR.out
      · have e : s.data.toList.drop n = [] := drop_all (by omega)
        rw [splitF_out _ _ e] at hres
        have HR := Lib.hid hres.symm; clear hres
        clear e
        go_wp2_with fail
        go_ret2
        unfold SplitRPost
        rw [HR.out]
        simp only [splitRes, List.append_nil, List.length_map]
        exact ⟨p, q, rfl, HSEP.out⟩

end Go.Proofs.YtfnlgpngnknkmaaDoor
