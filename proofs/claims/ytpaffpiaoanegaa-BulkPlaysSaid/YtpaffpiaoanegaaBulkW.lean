/-
  What is proved here: entries as the document has them (own); the arguments opened; fair.
  No condition: each lemma names its own.
-/
import Derived.Test.YtpaffpiaoanegaaBulkR
set_option linter.unusedVariables false
set_option linter.unusedSimpArgs false
namespace Go.Proofs.Ytpaffpiaoanegaa
open Go.RowKit

set_option maxRecDepth 100000 in
set_option maxHeartbeats 4000000 in
theorem own_any {w W : World} {rest : List Res} (hs : Sep w W rest) {p : Option Addr} {l : List E} (q : Nat) (hE : EntsAt W p l) (hl : l.length ≤ 100000) :
    Calls Try.prog 19 #[.slice p l.length q] W fun r W' => ∃ p' q', r = .returned (.slice p' l.length q') ∧ Sep w W' (rowRes 46 2 (.slice p' l.length q') l.length (cellsE l) :: rest) ∧ Only [] W W' := by
  obtain ⟨ie, IE⟩ := info_of Try.infoREnt
  have mixed : Try.prog.follows .mixedOrders = true := by kernel_rfl
  have HE := Lib.hid hE
  have HSW := Lib.hid hs
  have HS0 : Hid (Sep W W [rowRes 46 2 (.slice none 0 0) 0 []]) := (Sep.nil W).row_nil _ _
  clear hs hE
  go_enter Try.func19, Try.ntmps19
  go_wp2_with fail
  go_loopw [3, 4] (fun s3 s4 wr => ∃ (i : Nat) (pp : Option Addr) (qq : Nat), i ≤ l.length ∧ s4 = .int .i64 i ∧ s3 = .slice pp i qq ∧ Sep W wr [rowRes 46 2 (.slice pp i qq) i (cellsE (l.take i))]) (fun _ s4 _ => l.length - (intOf s4).toNat)
  case atStart => exact ⟨0, none, 0, Nat.zero_le _, rfl, rfl, HS0.out⟩
  case round =>
    obtain ⟨i, pp, qq, hi, rfl, rfl, hs⟩ := hrel
    have HS := Lib.hid hs; clear hs HS0
    by_cases hlt : i < l.length
    · obtain ⟨x, hx⟩ : ∃ x, l[i]? = some x := ⟨_, List.getElem?_eq_getElem hlt⟩
      obtain ⟨b, o, rfl, hb, e0, e1⟩ := (HE.out.only HS.out.old) i x hx
      have HTK := Lib.hid (show cellsE (l.take i) ++ (#[Value.string x.1, Value.int .i64 x.2] : Array Value).toList = cellsE (l.take (i + 1)) from by
        rw [List.take_add_one, hx, cellsE_append]; rfl)
      have HX := Lib.hid hx
      clear hx
      have HS5 := Lib.hid ((HS.out.drew).forget (.cells #[.string x.1, .int .i64 x.2] 46))
      go_wp2_with fail
      go_region_held3 (fun w' => w'.cell? ⟨b, o + i * 2, none⟩ = some (.string x.1) ∧ w'.cell? ⟨b, o + i * 2 + 1, none⟩ = some (.int .i64 x.2)) (first | go_keep | (refine ⟨?_, ?_⟩ <;> assumption)) (first | (refine step_append_sep (w := W) (e := 46) (B := wr.heap.size) rfl (.tmp 11) (.tmp 23) 39 rfl ie _ 2 24 Try.underlying39 IE.out rfl (by decide) (.slice pp i qq) i (cellsE (l.take i)) rfl rfl heap_alloc_self rfl (ent_one' x) HS5.out (by unfold maxLen; omega) (by omega) ?_; intro p6 q6 w6 hs6; have HS6 := Lib.hid hs6; obtain ⟨b6, o6, e6, _, f0, f1⟩ := (HE.out.only hs6.old) i x HX.out; simp only [Option.some.injEq, Addr.mk.injEq, and_true] at e6; obtain ⟨rfl, rfl⟩ := e6; clear hs6))
      all_goals
        go_wp2_with fail
        go_roundw
        case rel => exact ⟨i + 1, p6, q6, by omega, by go_num, by go_num, by rw [← HTK.out]; exact HS6.out⟩
        case measure => simp [intOf]; omega
    · have hin : i = l.length := by omega
      subst hin
      go_wp2_with fail
      go_ret
      have h := HS.out
      rw [List.take_length] at h
      exact ⟨pp, qq, rfl, HSW.out.joinNew2 h, h.old⟩

end Go.Proofs.Ytpaffpiaoanegaa
