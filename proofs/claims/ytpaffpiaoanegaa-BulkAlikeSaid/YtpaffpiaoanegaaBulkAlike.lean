/-
  What is proved here: the statement BulkAlike: however the keys are cut into pieces, the tree has the same; for every input.
  No condition.
-/
import Derived.Test.YtpaffpiaoanegaaBulkN
import Derived.Test.YtpaffpiaoanegaaBulkW
import Derived.Test.YtpaffpiaoanegaaArgs11
import Derived.Test.YtpaffpiaoanegaaPlay11
import Derived.Test.YtpaffpiaoanegaaArgs10
import Derived.ProofKit
import Derived.OpenShut
import Derived.HandedShaped
import Derived.Deep.DeepCutAuto
import Derived.Deep.CutBlock
namespace Go.Proofs.Ytpaffpiaoanegaa.bulkAlike
open Go.ChangeShapes Go.WideShapes Go.ChangeAt Go.RowKit Go.Proofs.Ytpaffpiaoanegaa
set_option linter.unusedVariables false
set_option linter.unusedSimpArgs false

set_option maxRecDepth 100000 in
set_option maxHeartbeats 4000000 in
theorem walk (pk : Option Addr) (keys : List ByteArray) (qk : Nat) (pc : Option Addr) (cuts : List Int) (qc : Nat) (w : World) (hlk : ((keys.length : Nat) : Int) ≤ 9223372036854775807) (hk : StrsAt w pk keys) (hlc : ((cuts.length : Nat) : Int) ≤ 9223372036854775807) (hc : (∀ y ∈ cuts, inI64 y) ∧ IntsAt w pc cuts) :
    Calls Try.prog 4 #[.slice pk keys.length qk, .slice pc cuts.length qc] w fun e w' => e = .returned (.bool true) ∧ Only [] w w' := by
  have HK := Lib.hid hk; clear hk
  have HC := Lib.hid hc; clear hc
  have mixed : Try.prog.follows .mixedOrders = true := by kernel_rfl
  obtain ⟨it, IT⟩ := info_of Try.infoEnt
  by_cases h300 : 300 < keys.length
  · go_enter Try.func4, Try.ntmps4
    go_wp2_with fail
    refine (wakes_any _).mono ?_
    rintro e w4 ⟨rfl, ho⟩
    have HO := Lib.hid ho; clear ho
    go_wp2_with fail
    go_ret
    exact ⟨rfl, HO.out⟩
  · have hs1 := ref_new (Sep.nil w)
    obtain ⟨s, hsz⟩ : ∃ s, s = w.heap.size := ⟨_, rfl⟩
    rw [← hsz] at hs1
    have HS1 := Lib.hid hs1
    have HSZ := Lib.hid hsz
    clear hs1 hsz
    go_enter Try.func4, Try.ntmps4
    go_wp2_with fail
    rw [← HSZ.out]
    go_loopw [6] (fun s6 wr => ∃ (i : Nat) (L : List E), i ≤ keys.length ∧ s6 = .int .i64 i ∧ L.length ≤ i ∧ Sorted L ∧ Short L 4096 ∧ Sep w wr [refRes s L]) (fun s6 _ => keys.length - (intOf s6).toNat)
    case atStart => exact ⟨0, [], Nat.zero_le _, rfl, by simp, List.Pairwise.nil, fun x hx => by simp at hx, HS1.out⟩
    case round =>
      obtain ⟨i, L, hi, rfl, hLi, hsr, hsh, hs⟩ := hrel
      have HT := Lib.hid hs; clear hs HS1
      have HSR := Lib.hid hsr; clear hsr
      have HSH := Lib.hid hsh; clear hsh
      by_cases hlt : i < keys.length
      · obtain ⟨x, hx⟩ : ∃ x, keys[i]? = some x := ⟨_, List.getElem?_eq_getElem hlt⟩
        obtain ⟨b', o, rfl, hb', c0⟩ := (HK.out.only HT.out.old) i x hx
        clear hx
        by_cases hbig : 1000 < x.size
        · go_wp2_with fail
          refine (wakes_any _).mono ?_
          rintro e w4 ⟨rfl, ho⟩
          have HO := Lib.hid (HT.out.old.trans ho (Within.nil _ _)); clear ho
          go_wp2_with fail
          go_ret
          exact ⟨rfl, HO.out⟩
        · have hL2 : (putR L (x, (i : Int))).1.length ≤ i + 1 := by have := putR_len1 L (x, (i : Int)); omega
          have HSR2 := Lib.hid (putR_sorted HSR.out (x, (i : Int)))
          have HSH2 := Lib.hid (HSH.out.put4 HSR.out (x, (i : Int)))
          go_wp2_with fail
          refine (rput_all HT.out x i (by omega)).mono ?_
          rintro r w4 ⟨rfl, hs4⟩
          have HS4 := Lib.hid hs4; clear hs4
          go_wp2_with fail
          go_roundw
          case rel => exact ⟨i + 1, _, by omega, by go_num, hL2, HSR2.out, HSH2.out, HS4.out⟩
          case measure => simp [intOf]; omega
      · clear HK
        obtain ⟨n, hn⟩ : ∃ n, n = L.length := ⟨_, rfl⟩
        have hn300 : n ≤ 300 := by omega
        have HNL := Lib.hid hn
        have hL4 : L.length ≤ 4096 := by omega
        clear hn hLi hi
        have HN1 := Lib.hid (fun (W : World) (h : Sep w W [refRes s L]) => bnew_any h 7 (by omega) (by omega))
        rw [show ((7 : Nat) : Int) = 7 from rfl] at HN1
        go_wp2_with fail
        refine (HN1.out _ HT.out).mono ?_
        rintro r w1 ⟨a, rfl, hs1⟩
        have HS1 := Lib.hid hs1; clear hs1 HT HN1
        have HN2 := Lib.hid (bnew_any HS1.out 7 (by omega) (by omega))
        rw [show ((7 : Nat) : Int) = 7 from rfl] at HN2
        go_wp2_with fail
        refine HN2.out.mono ?_
        rintro r w2 ⟨b, rfl, hs2⟩
        have HS2 := Lib.hid hs2; clear hs2 HN2 HS1
        obtain ⟨rp, rq, hk0, hents⟩ := HS2.out.up2.ref.cell0
        rw [← HNL.out] at hk0
        have HK0 := Lib.hid hk0
        have HEN := Lib.hid hents
        have HS0 : Hid (Sep w2 w2 [rowRes 31 2 (.slice none 0 0) 0 []]) := (Sep.nil w2).row_nil _ _
        clear hk0 hents
        go_wp2_with fail
        go_loopw [11, 12] (fun s11 s12 wr => ∃ (i : Nat) (pp : Option Addr) (qq : Nat), i ≤ n ∧ s12 = .int .i64 i ∧ s11 = .slice pp i qq ∧ Sep w2 wr [rowRes 31 2 (.slice pp i qq) i (cellsE (L.take i))]) (fun _ s12 _ => n - (intOf s12).toNat)
        case atStart => exact ⟨0, none, 0, Nat.zero_le _, rfl, rfl, HS0.out⟩
        case round =>
          obtain ⟨i, pp, qq, hi, rfl, rfl, hs⟩ := hrel
          have HS := Lib.hid hs; clear hs HS0
          have k0 := (HS.out.old.cell (block_lt_of_cell HK0.out) (by simp)).trans HK0.out
          by_cases hlt : i < n
          · obtain ⟨x, hx⟩ : ∃ x, L[i]? = some x := ⟨_, List.getElem?_eq_getElem (by have := HNL.out; omega)⟩
            obtain ⟨g, o, rfl, hb, e0, e1⟩ := (HEN.out.only HS.out.old) i x hx
            have HTK := Lib.hid (show cellsE (L.take i) ++ (#[Value.string x.1, Value.int .i64 x.2] : Array Value).toList = cellsE (L.take (i + 1)) from by
              rw [List.take_add_one, hx, cellsE_append]; rfl)
            have HX := Lib.hid hx
            clear hx
            have HS5 := Lib.hid ((HS.out.drew).forget (.cells #[.string x.1, .int .i64 x.2] 31))
            go_wp2_with fail
            go_region_held3 (fun w' => w'.cell? ⟨s, 0, none⟩ = some (.slice (some ⟨g, o, none⟩) n rq) ∧ w'.cell? ⟨g, o + i * 2, none⟩ = some (.string x.1) ∧ w'.cell? ⟨g, o + i * 2 + 1, none⟩ = some (.int .i64 x.2)) (first | go_keep | (refine ⟨?_, ?_, ?_⟩ <;> assumption)) (first | (refine step_append_sep (w := w2) (e := 31) (B := wr.heap.size) rfl (.tmp 69) (.tmp 87) 32 rfl it _ 2 24 Try.underlying32 IT.out rfl (by decide) (.slice pp i qq) i (cellsE (L.take i)) rfl rfl heap_alloc_self rfl (ent_one' x) HS5.out (by unfold maxLen; omega) (by omega) ?_; intro p6 q6 w6 hs6; have HS6 := Lib.hid hs6; have kk := (hs6.old.cell (block_lt_of_cell HK0.out) (by simp)).trans HK0.out; obtain ⟨b6, o6, e6, _, f0, f1⟩ := (HEN.out.only hs6.old) i x HX.out; simp only [Option.some.injEq, Addr.mk.injEq, and_true] at e6; obtain ⟨rfl, rfl⟩ := e6; clear hs6))
            all_goals
              go_wp2_with fail
              go_roundw
              case rel => exact ⟨i + 1, p6, q6, by omega, by go_num, by go_num, by rw [← HTK.out]; exact HS6.out⟩
              case measure => simp [intOf]; omega
          · have hin : i = n := by omega
            subst hin
            obtain ⟨W3, rfl⟩ : ∃ W3, W3 = wr := ⟨_, rfl⟩
            have HTW : Hid (L.take i = L) := List.take_of_length_le (by have := HNL.out; omega)
            have hsa := HS2.out.joinNew2 HS.out
            rw [HTW.out] at hsa
            have HSA := Lib.hid hsa
            clear hsa HS HS2 HTW
            go_upto_region 19 with fail
            clear k0
            have hs4 : Sep W3 (W3.alloc (.cells #[] 31)) [rowRes 31 2 (.slice (some ⟨W3.heap.size, 0, none⟩) 0 0) 0 []] := (Sep.nil W3).row_made _ 2
            have HSRC := Lib.hid (ents_src ((entsAt_row HSA.out.row).only hs4.old))
            have HS4 := Lib.hid hs4; clear hs4
            go_wp2_with (at_builtin; go_must (refine wpList_append_src (w := W3) (e := 31) rfl (.tmp 89) (.tmp 90) 32 rfl it _ 2 24 Try.underlying32 IT.out rfl (by decide) _ 0 [] rfl pp i qq (cellsE L) rfl (by rw [cellsE_length, ← HNL.out]) HSRC.out (cellsE_one L) HS4.out (by unfold maxLen; omega) (by omega) ?_))
            intro pr qr w5 hs5
            try rw [Nat.zero_add] at hs5
            try rw [List.nil_append] at hs5
            try rw [Nat.zero_add]
            have HSB := Lib.hid (HSA.out.joinNew2 hs5)
            clear hs5 HS4 HSRC
            have HLS := Lib.hid (show Sep w w5 [bulkRes b 7 (L.take 0) 0 false, rowRes 31 2 (.slice pr i qr) i (cellsE L), rowRes 31 2 (.slice pp i qq) i (cellsE L), bulkRes a 7 [] 0 false, refRes s L] from HSB.out.up2)
            have hpos : (∃ g0, pr = some ⟨g0, 0, none⟩ ∧ i ≤ qr) ∨ (pr = none ∧ i = 0 ∧ qr = 0) := by
              rcases HSB.out.row.2 with ⟨e1, e2⟩ | ⟨g, cap, cur, e1, _, _, h6, _⟩
              · simp only [Value.slice.injEq] at e1
                exact .inr ⟨e1.1, e1.2.1, e1.2.2⟩
              · simp only [Value.slice.injEq] at e1
                obtain ⟨e1, _, e3⟩ := e1
                exact .inl ⟨g, e1, by rw [e3]; exact h6⟩
            have HPR := Lib.hid hpos
            clear hpos HSB HSA
            go_wp2_with fail
            go_loopw [13, 14] (fun s13 s14 wx => ∃ (j o r : Nat) (p' : Option Addr) (q' : Nat), j ≤ cuts.length ∧ j ≤ 60 ∧ s14 = .int .i64 j ∧ o + r = i ∧ s13 = .slice p' r q' ∧ ((∃ g0 off, pr = some ⟨g0, 0, none⟩ ∧ p' = some ⟨g0, off, none⟩ ∧ (o < i → off = o * 2) ∧ r ≤ q') ∨ (p' = none ∧ i = 0 ∧ q' = 0)) ∧ Sep w wx [bulkRes b 7 (L.take o) 0 false, rowRes 31 2 (.slice pr i qr) i (cellsE L), rowRes 31 2 (.slice pp i qq) i (cellsE L), bulkRes a 7 [] 0 false, refRes s L]) (fun _ s14 _ => cuts.length - (intOf s14).toNat)
            case atStart =>
              refine ⟨0, 0, i, pr, qr, Nat.zero_le _, Nat.zero_le _, rfl, Nat.zero_add _, rfl, ?_, HLS.out⟩
              rcases HPR.out with ⟨g0, h1, h2⟩ | h
              · exact .inl ⟨g0, 0, h1, h1, fun _ => rfl, by omega⟩
              · exact .inr h
            case round =>
              obtain ⟨j, o, r, p', q', hj, hj6, rfl, ho, rfl, hpos, hs⟩ := hrel
              have HT := Lib.hid hs; clear hs HLS
              go_upto_region 21 with fail
              go_cut [99] (fun s99 wx => (∃ c : Bool, s99 = .bool c ∧ (c = true → j < cuts.length ∧ j < 60)) ∧ wr = wx)
              case first =>
                go_wp2_with fail
                all_goals
                  go_meet
                  first
                    | exact ⟨⟨false, rfl, fun h => (by cases h)⟩, rfl⟩
                    | exact ⟨⟨true, rfl, fun _ => ⟨by omega, by omega⟩⟩, rfl⟩
                    | exact ⟨⟨_, rfl, fun h => by simp only [Bool.and_eq_true, decide_eq_true_eq] at h; omega⟩, rfl⟩
              case rest =>
                obtain ⟨⟨c, rfl, hc⟩, rfl⟩ := hcut
                cases c with
                | true =>
                  obtain ⟨g1, g2⟩ := hc rfl
                  clear hc
                  obtain ⟨cj, hcj⟩ : ∃ x, cuts[j]? = some x := ⟨_, List.getElem?_eq_getElem g1⟩
                  obtain ⟨bt, ot, rfl, _, t0⟩ := (HC.out.2.only HT.out.old) j cj hcj
                  obtain ⟨bi1, bi2⟩ := HC.out.1 cj (List.mem_of_getElem? hcj)
                  clear hcj
                  have n1 : (1 : Int) ≤ (r : Int) + 1 := by omega
                  have n2 : (r : Int) + 1 ≤ 1000000 := by omega
                  go_upto_region 24 with (go_at_call 14; refine (mod_any cj ((r : Int) + 1) _ n1 n2 bi1 bi2).mono ?_; rintro e w6 ⟨rfl, rfl⟩)
                  have mx1 := Int.emod_nonneg cj (show (r : Int) + 1 ≠ 0 by omega)
                  have mx2 := Int.emod_lt_of_pos cj (show (0 : Int) < (r : Int) + 1 by omega)
                  clear t0 bi1 bi2 n1 n2
                  generalize cj % ((r : Int) + 1) = X at mx1 mx2 ⊢
                  obtain ⟨k, rfl⟩ : ∃ k : Nat, X = (k : Int) := ⟨X.toNat, by omega⟩
                  have hkr : k ≤ r := by omega
                  clear mx1 mx2
                  have HPC := Lib.hid (addR_piece HSR.out HSH.out hL4 o k)
                  have hkl : ((L.drop o).take k).length = k := by rw [List.length_take, List.length_drop, ← HNL.out]; omega
                  have HKL := Lib.hid hkl; clear hkl
                  rcases hpos with ⟨g0, off, hpr, rfl, hoff, hq⟩ | ⟨rfl, hi0, rfl⟩
                  · have HOFF := Lib.hid hoff
                    have HEO : Hid (∀ V : World, Sep w V [bulkRes b 7 (L.take o) 0 false, rowRes 31 2 (.slice pr i qr) i (cellsE L), rowRes 31 2 (.slice pp i qq) i (cellsE L), bulkRes a 7 [] 0 false, refRes s L] → EntsAt V (some ⟨g0, off, none⟩) (L.drop o)) := by
                      intro V h
                      have h1 := entsAt_row h.up1.row
                      rw [hpr] at h1
                      by_cases hoi : o < i
                      · rw [hoff hoi]
                        have h2 := h1.drop o
                        rw [Nat.zero_add] at h2
                        exact h2
                      · rw [List.drop_eq_nil_of_le (by have := HNL.out; omega)]
                        exact EntsAt.none
                    have HPRR := Lib.hid hpr
                    clear hpr hoff
                    have hs4 : Sep wr (wr.alloc (.cells #[] 31)) [rowRes 31 2 (.slice (some ⟨wr.heap.size, 0, none⟩) 0 0) 0 []] := (Sep.nil wr).row_made _ 2
                    have HSRC := Lib.hid (ents_src (((HEO.out _ HT.out).take k).only hs4.old))
                    have HS4 := Lib.hid hs4; clear hs4
                    have hkq : k ≤ q' := by omega
                    go_wp2_with (at_builtin; go_must (refine wpList_append_src (w := wr) (e := 31) rfl (.tmp 111) (.tmp 114) 32 rfl it _ 2 24 Try.underlying32 IT.out rfl (by decide) _ 0 [] rfl (some ⟨g0, off, none⟩) k q' (cellsE ((L.drop o).take k)) rfl (by rw [cellsE_length, HKL.out]) HSRC.out (cellsE_one _) HS4.out (by unfold maxLen; omega) (by omega) ?_))
                    intro p5 q5 w6 hs5
                    try rw [Nat.zero_add] at hs5
                    try rw [List.nil_append] at hs5
                    try rw [Nat.zero_add]
                    have HSX := Lib.hid (HT.out.joinNew2 hs5)
                    clear hs5 HS4 HSRC
                    have hA := badd_any (l := (L.drop o).take k) HSX.out.up1 q5 (fun W' L' h => by have h1 := h.up1.row; exact entsAt_row h1) (by rw [List.length_take]; omega) (by rw [HKL.out]; omega)
                    rw [HPC.out, HKL.out] at hA
                    simp only at hA
                    have HA := Lib.hid hA; clear hA
                    go_wp2_with fail
                    refine HA.out.mono ?_
                    rintro r9 w7 ⟨rfl, hs7⟩
                    have HS7 := Lib.hid (hs7.up1.tail); clear hs7 HA HSX
                    by_cases hkq2 : k = q'
                    · subst hkq2
                      have hrk : r = k := by omega
                      subst hrk
                      go_wp2_with fail
                      go_roundw
                      case rel => exact ⟨j + 1, o + r, 0, some ⟨g0, off, none⟩, 0, by omega, by omega, by go_num, by omega, rfl, .inl ⟨g0, off, HPRR.out, rfl, fun h => by omega, Nat.zero_le _⟩, HS7.out⟩
                      case measure => simp [intOf]; omega
                    · have hkq3 : k < q' := by omega
                      go_wp2_with fail
                      go_roundw
                      case rel => exact ⟨j + 1, o + k, r - k, some ⟨g0, off + k * 2, none⟩, q' - k, by omega, by omega, by go_num, by omega, by go_num, .inl ⟨g0, _, HPRR.out, rfl, fun h => by rw [HOFF.out (by omega)]; omega, by omega⟩, HS7.out⟩
                      case measure => simp [intOf]; omega
                  · have hr0 : r = 0 := by omega
                    subst hr0
                    have hk0 : k = 0 := by omega
                    subst hk0
                    have HI0 := Lib.hid hi0
                    clear hi0 hkr
                    have hs4 : Sep wr (wr.alloc (.cells #[] 31)) [rowRes 31 2 (.slice (some ⟨wr.heap.size, 0, none⟩) 0 0) 0 []] := (Sep.nil wr).row_made _ 2
                    have HSRC := Lib.hid (ents_src (EntsAt.none (W := wr.alloc (.cells #[] 31)) (p := none)))
                    have HS4 := Lib.hid hs4; clear hs4
                    go_wp2_with (at_builtin; go_must (refine wpList_append_src (w := wr) (e := 31) rfl (.tmp 111) (.tmp 114) 32 rfl it _ 2 24 Try.underlying32 IT.out rfl (by decide) _ 0 [] rfl none 0 0 (cellsE []) rfl rfl HSRC.out (cellsE_one _) HS4.out (by unfold maxLen; omega) (by omega) ?_))
                    intro p5 q5 w6 hs5
                    try rw [Nat.zero_add] at hs5
                    try rw [List.nil_append] at hs5
                    try rw [Nat.zero_add]
                    have HSX := Lib.hid (HT.out.joinNew2 hs5)
                    clear hs5 HS4 HSRC
                    have HK0' : Hid ((L.drop o).take 0 = []) := List.take_zero
                    have hA := badd_any (p := p5) (l := (L.drop o).take 0) HSX.out.up1 q5 (fun W' L' h => by rw [HK0'.out]; exact EntsAt.none) (by rw [List.length_take]; omega) (by rw [HKL.out]; omega)
                    rw [HPC.out, HKL.out] at hA
                    simp only at hA
                    have HA := Lib.hid hA; clear hA
                    go_wp2_with fail
                    refine HA.out.mono ?_
                    rintro r9 w7 ⟨rfl, hs7⟩
                    have HS7 := Lib.hid (hs7.up1.tail); clear hs7 HA HSX
                    go_wp2_with fail
                    go_roundw
                    case rel => exact ⟨j + 1, o + 0, 0, none, 0, by omega, by omega, by go_num, by omega, rfl, .inr ⟨rfl, HI0.out, rfl⟩, HS7.out⟩
                    case measure => simp [intOf]; omega
                | false =>
                  clear hc
                  obtain ⟨W4, rfl⟩ : ∃ W4, W4 = wr := ⟨_, rfl⟩
                  have HAW := Lib.hid (addR_whole HSR.out HSH.out hL4)
                  have HAR := Lib.hid (addR_rest HSR.out HSH.out hL4 o)
                  have HRL : Hid ((L.drop o).length = r) := by show _ = _; rw [List.length_drop, ← HNL.out]; omega
                  have HEO : Hid (∀ (V : World) (l' : List Res), Sep w V (rowRes 31 2 (.slice pr i qr) i (cellsE L) :: l') → EntsAt V p' (L.drop o)) := by
                    intro V l' h
                    by_cases hoi : o < i
                    · rcases hpos with ⟨g0, off, hpr, rfl, hoff, hq⟩ | ⟨_, hi0, _⟩
                      · have h1 := entsAt_row h.row
                        rw [hpr] at h1
                        rw [hoff hoi]
                        have h2 := h1.drop o
                        rw [Nat.zero_add] at h2
                        exact h2
                      · omega
                    · rw [List.drop_eq_nil_of_le (by have := HNL.out; omega)]
                      exact EntsAt.none
                  have hA := badd_any (l := L) HT.out.up3 (p := pp) qq (fun W' L' h => entsAt_row h.up3.row) (by simp) (by omega)
                  rw [HAW.out, ← HNL.out] at hA
                  simp only at hA
                  have HA := Lib.hid hA
                  clear hA hpos
                  go_wp2_with fail
                  refine HA.out.mono ?_
                  rintro r9 w7 ⟨rfl, hs7⟩
                  have hB := badd_any (l := L.drop o) hs7.up1 (p := p') q' (fun W' L' h => HEO.out _ _ h.up2) (by rw [List.length_take]; omega) (by rw [HRL.out]; omega)
                  rw [HAR.out, HRL.out] at hB
                  simp only at hB
                  have HB := Lib.hid hB
                  clear hB hs7 HA HT
                  go_wp2_with fail
                  refine HB.out.mono ?_
                  rintro r9 w8 ⟨rfl, hs8⟩
                  have HS8 := Lib.hid hs8.up1
                  clear hs8 HB
                  go_wp2_with fail
                  refine (bdone_first HS8.out).mono ?_
                  rintro r9 w9 ⟨t, rfl, hs9⟩
                  have HS9 := Lib.hid hs9.up2
                  clear hs9 HS8
                  go_wp2_with fail
                  refine (bdone_first HS9.out).mono ?_
                  rintro r9 w10 ⟨u, rfl, hs10⟩
                  have HTU := Lib.hid hs10.tree
                  have HTT := Lib.hid hs10.up2.tree
                  have HREF : Hid (RefAt w10 s L) := (hs10.perm (l' := refRes s L :: _) (by
                    refine List.perm_middle (l₁ := [_, _, _, _, _, _]) (l₂ := []))).ref
                  have OLD := Lib.hid hs10.old
                  clear hs10 HS9
                  obtain ⟨rp2, rq2, hk0, hents⟩ := HREF.out.cell0
                  have HEN2 := Lib.hid hents; clear hents
                  have hra := rangeL_all L hL4
                  have HRA := Lib.hid (range_any (HTT.out.only (Only.drew [] w10)) (by omega) ⟨#[]⟩ ⟨#[]⟩ 4096)
                  have HRB := Lib.hid (fun V h => range_any (W := V) (L := L) (q := u) (fan := 7) h (by omega) ⟨#[]⟩ ⟨#[]⟩ 4096)
                  rw [hra] at HRA HRB
                  clear hra
                  go_wp2_with fail
                  go_region_held3 (fun w' => w'.cell? ⟨s, 0, none⟩ = some (.slice rp2 L.length rq2)) (first | go_keep | assumption) (first
                    | (go_at_call 16; first
                      | (refine (HRB.out _ (HTU.out.only O5.out)).mono ?_; rintro r w6 ⟨pr4, qr4, rfl, hs6⟩; have HS6 := Lib.hid hs6; have o6 := O5.out.trans hs6.old (Within.nil _ _); have O6 := Lib.hid o6; have k6 := (o6.cell (block_lt_of_cell hk0) (by simp)).trans hk0; clear hs6 o6)
                      | (refine HRA.out.mono ?_; rintro r w4 ⟨pr3, qr3, rfl, hs4⟩; have HS4 := Lib.hid hs4; have o4 := (Only.drew [] w10).trans hs4.old (Within.nil _ _); have O4 := Lib.hid o4; have k4 := (o4.cell (block_lt_of_cell hk0) (by simp)).trans hk0; clear hs4 o4))
                    | (go_at_call 15; first
                      | (refine (same_any (entsAt_row HS6.out.row) (HEN2.out.only O6.out) (by omega) (by omega)).mono ?_; rintro r w7 ⟨rfl, ho7⟩; rw [decide_eq_true rfl]; have O7 := Lib.hid (O6.out.trans ho7 (Within.nil _ _)); have k7 := (O7.out.cell (block_lt_of_cell hk0) (by simp)).trans hk0; clear ho7)
                      | (refine (same_any (entsAt_row HS4.out.row) (HEN2.out.only O4.out) (by omega) (by omega)).mono ?_; rintro r w5 ⟨rfl, ho5⟩; rw [decide_eq_true rfl]; have O5 := Lib.hid (O4.out.trans ho5 (Within.nil _ _)); have k5 := (O5.out.cell (block_lt_of_cell hk0) (by simp)).trans hk0; clear ho5))
                    | (go_at_call 11; refine (wakes_any _).mono ?_; rintro r w8 ⟨rfl, ho8⟩; have O8 := Lib.hid (O7.out.trans ho8 (Within.nil _ _)); have k8 := (O8.out.cell (block_lt_of_cell hk0) (by simp)).trans hk0; clear ho8))
                  all_goals
                    go_wp2_with fail
                    go_ret
                    exact ⟨rfl, OLD.out.trans O8.out (Within.nil _ _)⟩

theorem own : ownKnob Try.prog.godebug = none := by kernel_rfl
theorem laidOut : laidOutB Try.prog = true := by kernel_rfl

set_option maxRecDepth 100000 in
theorem lifted (os : Os) (started : os.Started) (H : Type) (enc : TypeId × Value → H) :
    ReturnsInHanded {} Try.checked os 4 .any (Rows.bulkAlikeSpec.pre6 enc Try.prog Try.f4 Rows.bulkAlikeRow.domain false) (Rows.bulkAlikeSpec.post enc Try.prog Try.f4 false true false false) := by
  refine returnsInHanded_of_change (C := Try.checked) own started (by kernel_rfl) Try.func4
    (ChangeSpec.witness6 (enc := enc) (C := Try.checked) false ⟨#[], #[.slice none 0 0, .slice none 0 0], []⟩ 8 (by kernel_rfl) (by kernel_rfl) (by kernel_rfl) (by kernel_rfl)) ?_
  intro W base args ds gs before hval0 hW hcnd _
  have hval : ∀ (j : Nat) t v, Try.f4.params[j]? = some t → args[j]? = some v → Value.okWide Try.prog W .any base t v := hval0
  have hW' := hW
  obtain ⟨pp, pq, hA0, hV, rfl, hfz, hnd⟩ := hW
  have hA : DataW.TrodAll enc Try.prog W 0 (fun _ => true) true Try.f4.params.toList args.toList ds pp := hA0
  rw [Try.params4] at hA hval
  obtain ⟨v0, vs0, d0, ds0, p0, q0, hargs, rfl, rfl, h0, r0⟩ := trodAll_cons hA
  obtain ⟨v1, vs1, d1, ds1, p1, q1, rfl, rfl, rfl, h1, r1⟩ := trodAll_cons r0
  obtain ⟨rfl, rfl, rfl⟩ := trodAll_nil r1
  obtain rfl : args = #[v0, v1] := by cases args; simp_all
  obtain ⟨rfl, rfl⟩ := trodVars_none hV
  obtain ⟨sp0, sl0, sq0, rfl, hl0, hst0⟩ := open_strs (W := W) (v := v0) (by
    obtain ⟨a, len, cap, rfl⟩ := okWide_slice Try.underlying36 (hval 0 36 v0 rfl rfl)
    exact ⟨a, len, cap, rfl⟩) h0
  obtain ⟨sp1, sl1, sq1, rfl, hl1, hst1⟩ := open_ints (W := W) (v := v1) (by
    obtain ⟨a, len, cap, rfl⟩ := okWide_slice Try.underlying37 (hval 1 37 v1 rfl rfl)
    exact ⟨a, len, cap, rfl⟩) h1
  clear hA0 hval0
  simp only [List.append_nil] at hW'
  refine (walk sp0 sl0 sq0 sp1 sl1 sq1 W hl0 hst0 hl1 hst1).mono fun e W' ⟨he, hg⟩ => ?_
  subst he
  have hb : Below W.heap.size W W' := hg.below (Nat.le_refl _) (by simp)
  have hargs := (trodAll_cons_mk (Below.trod laidOut (by kernel_rfl) (of_decide_eq_true (by kernel_rfl)) h0 hb (fun x hx => hW'.lt x (by simp [hx]))) (trodAll_cons_mk (Below.trod laidOut (by kernel_rfl) (of_decide_eq_true (by kernel_rfl)) h1 hb (fun x hx => hW'.lt x (by simp [hx]))) trodAll_mk0))
  simp only [List.append_nil] at hargs
  exact ⟨_, rfl, _, _, _, [], _, [], hW', trodAll_cons_mk (shut_bool Try.underlying4 _) trodAll_mk0, hargs, rfl, hb.frame _, fun h => by cases h⟩

theorem over : Rows.bulkAlikeRow.holds Try.pinned (OpenSpec.ofChange Rows.bulkAlikeSpec) :=
  OpenClaim.holds_of_wide 4 Try.f4 rfl rfl rfl rfl rfl rfl rfl ⟨rfl, rfl, rfl, rfl, rfl⟩ rfl rfl rfl rfl rfl (by kernel_rfl) Try.func4 (by kernel_rfl)
    (of_decide_eq_true (by kernel_rfl)) (by unfold Func.isWrapper; first | (rw [if_pos (by decide +kernel)]; kernel_rfl) | (rw [if_neg (by decide +kernel)]; exact ⟨rfl, rfl⟩))
    (fun os started H enc _ => lifted os started H enc)

theorem proved : Rows.BulkAlikeSaid := over
#print axioms proved
end Go.Proofs.Ytpaffpiaoanegaa.bulkAlike
