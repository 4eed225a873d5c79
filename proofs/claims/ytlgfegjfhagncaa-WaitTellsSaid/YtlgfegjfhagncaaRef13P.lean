/-
  What is proved here: the document's put (a number at its place, once).
  Condition: lists are no longer than 1000000.
-/
import Derived.Test.YtlgfegjfhagncaaWaitW
import Derived.Deep.RegionLaw
set_option linter.unusedSimpArgs false
set_option linter.unusedVariables false
namespace Go.Proofs.Ytlgfegjfhagncaa
open Go.RowKit

/-- The same as 'step_append_sep', of whatever slice. -/
theorem step_append_src {P : Program} {w W : World} {l : List Res} {e : TypeId} {ops : Array Oper} {o : Oper} {a : Act} {K : Act → World → Prop} {Q : Exit → Act → World → Prop} {E : Prop} (hgd : o.guard = none) (s x : Operand) (t : TypeId)
    (ho : o.op = .call { callee := .builtin .append, args := #[s, x], argTypes := #[t, t] })
    (i : TypeInfo) (z : Value) (size bytes : Nat) (ht : P.underlying t = some (.slice e)) (hi : P.info? e = some i ∧ i.zero = some z ∧ i.size = size ∧ i.bytes = bytes) (hzs : z.cells.size = size) (hsz : 0 < size)
    (v : Value) (n : Nat) (xs : List Value) (hs : a.eval s = v)
    (p : Option Addr) (m c : Nat) (news : List Value) (hx : a.eval x = .slice p m c) (hl : news.length = m * size) (hnews : ∀ j u, news[j]? = some u → ∃ b o, p = some ⟨b, o, none⟩ ∧ W.cell? ⟨b, o + j, none⟩ = some u) (h1 : ∀ u ∈ news, u.oneCell' = true)
    (hsep : Sep w W (rowRes e size v n xs :: l))
    (h63 : n + m ≤ maxLen) (hbytes : (n + m) * bytes ≤ 140737488355328)
    (h : ∀ p' q w', Sep w w' (rowRes e size (.slice p' (n + m) q) (n + m) (xs ++ news) :: l) → K (a.put o.dst (.slice p' (n + m) q)) w') :
    if Region.wanted o (yielded ops a.tmps) = true then Oper.wp P o a W K Q else E := by
  have hw : Region.wanted o (yielded ops a.tmps) = true := by simp [Region.wanted, hgd]
  rw [if_pos hw]
  obtain ⟨p', q, w', hr, h2, h3, h4⟩ := run_append_src (P := P) W t o.type e i z size bytes ht hi.1 hi.2.1 hi.2.2.1 hi.2.2.2 hzs hsz v n xs hsep.row p m c news hl hnews h1 h63 hbytes
  unfold Oper.wp execOp
  simp only [ho, resolve, invoke, builtin, Sem.run_bind, Sem.run_pure, Result.andThen_ok, List.map_toArray, List.map_cons, List.map_nil, hs, hx, hr]
  refine h p' q w' (hsep.turn ?_)
  rintro F ⟨_, rfl⟩
  exact ⟨_, ⟨h2, rfl⟩, h3, h4⟩

/-- A slice that is nil, or begins at its block's first cell. -/
def RowV (p : Option Addr) (n q : Nat) : Prop := (p = none ∧ n = 0 ∧ q = 0) ∨ ∃ g, p = some ⟨g, 0, none⟩ ∧ n ≤ q
theorem Sep.rowV {w W : World} {e : TypeId} {size : Nat} {p : Option Addr} {n q : Nat} {xs : List Value} {l : List Res} (h : Sep w W (rowRes e size (.slice p n q) n xs :: l)) : RowV p n q := by
  rcases h.row.2 with ⟨h1, h2⟩ | ⟨g, cap, cur, hv, _, _, hc, _⟩
  · simp only [Value.slice.injEq] at h1
    exact .inl ⟨h1.1, h2, h1.2.2⟩
  · simp only [Value.slice.injEq] at hv
    obtain ⟨rfl, _, rfl⟩ := hv
    exact .inr ⟨g, rfl, hc⟩

theorem ints_src {W : World} {p : Option Addr} {xs : List Int} (h : IntsAt W p xs) (k : Nat) {g : Nat} (hp : p = some ⟨g, 0, none⟩) : ∀ j u, (intCells (xs.drop k))[j]? = some u → ∃ b o, (some ⟨g, k, none⟩ : Option Addr) = some ⟨b, o, none⟩ ∧ W.cell? ⟨b, o + j, none⟩ = some u := by
  intro j u hu
  simp only [intCells, List.getElem?_map, List.getElem?_drop, Option.map_eq_some_iff] at hu
  obtain ⟨x, hx, rfl⟩ := hu
  obtain ⟨b, o, e, _, hc⟩ := h _ x hx
  subst hp
  simp only [Option.some.injEq, Addr.mk.injEq, and_true] at e
  obtain ⟨rfl, rfl⟩ := e
  rw [Nat.zero_add] at hc
  exact ⟨g, k, rfl, hc⟩
theorem ints_src0 {W : World} {p : Option Addr} {xs : List Int} (h : IntsAt W p xs) (k : Nat) {g : Nat} (hp : p = some ⟨g, 0, none⟩) : ∀ j u, (intCells (xs.take k))[j]? = some u → ∃ b o, (some ⟨g, 0, none⟩ : Option Addr) = some ⟨b, o, none⟩ ∧ W.cell? ⟨b, o + j, none⟩ = some u := by
  intro j u hu
  have := ints_src h 0 hp j u
  rw [List.drop_zero] at this
  refine this ?_
  have hj := (List.getElem?_eq_some_iff.1 hu).1
  simp only [intCells, List.length_map, List.length_take] at hj
  simp only [intCells, List.getElem?_map, List.getElem?_take] at hu ⊢
  split at hu
  · exact hu
  · omega
theorem ints_srcI {W : World} {p : Option Addr} {xs : List Int} (h : IntsAt W p xs) (k q : Nat) {g : Nat} (hp : p = some ⟨g, 0, none⟩) (hq : xs.length ≤ q) : ∀ j u, (intCells (xs.drop k))[j]? = some u → ∃ b o, (if q = k then (some ⟨g, 0, none⟩ : Option Addr) else some ⟨g, k, none⟩) = some ⟨b, o, none⟩ ∧ W.cell? ⟨b, o + j, none⟩ = some u := by
  intro j u hu
  have hj := (List.getElem?_eq_some_iff.1 hu).1
  simp only [intCells, List.length_map, List.length_drop] at hj
  rw [if_neg (by omega)]
  exact ints_src h k hp j u hu
theorem intCells_one (xs : List Int) : ∀ u ∈ intCells xs, u.oneCell' = true := by
  intro u hu
  obtain ⟨x, _, rfl⟩ := List.mem_map.1 hu
  rfl
theorem intCells_length (xs : List Int) : (intCells xs).length = xs.length := by simp [intCells]

set_option maxRecDepth 100000 in
set_option maxHeartbeats 2000000 in
theorem put_new (xs : List Int) (p : Option Addr) (q : Nat) (n : Int) (W : World) (hl : xs.length ≤ 1000000) (hin : n ∉ xs) (hr : Rising xs) (hv : RowV p xs.length q) (h : IntsAt W p xs) :
    Calls Try.prog 20 #[.slice p xs.length q, .int .i64 n] W fun e W' => ∃ p' q', e = .returned (.slice p' (putI xs n).length q') ∧ Sep W W' [rowRes 3 1 (.slice p' (putI xs n).length q') (putI xs n).length (intCells (putI xs n))] := by
  obtain ⟨ii, II⟩ := info_of Try.infoInt
  have H := Lib.hid h
  have HIN := Lib.hid hin
  have HV := Lib.hid hv
  clear h hin hv
  go_enter Try.func20, Try.ntmps20
  go_upto_block 0 with fail
  go_cut [5] (fun s5 wx => ∃ k : Nat, k ≤ xs.length ∧ s5 = .int .i64 k ∧ W = wx ∧ (∀ x ∈ xs.take k, x < n) ∧ (∀ x, xs[k]? = some x → n < x))
  case first =>
    go_wp2_with fail
    go_loopw [5] (fun s5 wr => ∃ i : Nat, i ≤ xs.length ∧ s5 = .int .i64 i ∧ W = wr ∧ ∀ x ∈ xs.take i, x < n) (fun s5 _ => xs.length - (intOf s5).toNat)
    case atStart => exact ⟨0, Nat.zero_le _, rfl, rfl, by simp⟩
    case round =>
      obtain ⟨i, hi, rfl, rfl, hm⟩ := hrel
      have HM := Lib.hid hm; clear hm
      by_cases hlt : i < xs.length
      · obtain ⟨x, hx⟩ : ∃ x, xs[i]? = some x := ⟨_, List.getElem?_eq_getElem hlt⟩
        obtain ⟨b, o, rfl, hb, c0⟩ := H.out i x hx
        by_cases hxn : x < n
        · have HM2 : Hid (∀ y ∈ xs.take (i + 1), y < n) := by
            intro y hy
            rw [List.take_add_one, hx] at hy
            rcases List.mem_append.1 hy with q | q
            · exact HM.out y q
            · simp at q; omega
          clear hx
          go_wp2_with fail
          go_roundw
          case rel => exact ⟨i + 1, by omega, by go_num, trivial, HM2.out⟩
          case measure => simp [intOf]; omega
        · have HX : Hid (∀ y, xs[i]? = some y → n < y) := by
            intro y hy
            rw [hx] at hy
            cases hy
            rcases Int.lt_trichotomy x n with q | q | q
            · exact absurd q hxn
            · exact absurd (q ▸ List.mem_of_getElem? hx) HIN.out
            · exact q
          clear hx
          go_wp2_with fail
          go_meet
          exact ⟨i, by omega, rfl, rfl, HM.out, HX.out⟩
      · go_wp2_with fail
        go_meet
        exact ⟨i, by omega, rfl, rfl, HM.out, fun x hx => by rw [List.getElem?_eq_none (by omega)] at hx; cases hx⟩
  case rest =>
    obtain ⟨k, hk, rfl, rfl, hm, hx⟩ := hcut
    have HP := Lib.hid (putI_new xs n k hk hm hx)
    have HX := Lib.hid hx
    clear hm hx
    go_upto_region 4 with fail
    go_cut [31] (fun s31 wx => s31 = .bool false ∧ W = wx)
    case first =>
      by_cases hlt : k < xs.length
      · obtain ⟨x, hx⟩ : ∃ x, xs[k]? = some x := ⟨_, List.getElem?_eq_getElem hlt⟩
        obtain ⟨b, o, rfl, hb, c0⟩ := H.out k x hx
        have hne : (x == n) = false := by rw [beq_eq_false_iff_ne]; have := HX.out x hx; omega
        clear hx
        go_wp2_with fail
        go_meet
        exact ⟨rfl, rfl⟩
      · go_wp2_with fail
        go_meet
        exact ⟨rfl, rfl⟩
    case rest =>
      obtain ⟨rfl, rfl⟩ := hcut
      have HA : Hid (Sep W ((W.alloc (.cells #[] 3)).drew) [rowRes 3 1 (.slice (some ⟨W.heap.size, 0, none⟩) 0 0) 0 []]) := ((Sep.nil W).row_made 3 1).drew
      have HB : Hid (Sep W (((W.alloc (.cells #[] 3)).alloc (.cells #[.int .i64 n] 3)).drew) [rowRes 3 1 (.slice (some ⟨W.heap.size, 0, none⟩) 0 0) 0 [], blkRes (W.heap.size + 1) (.cells #[.int .i64 n] 3 (0, 0))]) := by
        have h := ((((Sep.nil W).row_made 3 1).alloc #[.int .i64 n] 3).up1).drew
        rw [show (W.alloc (.cells #[] 3)).heap.size = W.heap.size + 1 from by simp] at h
        exact h
      have HC : Hid (Sep W (((W.alloc (.cells #[.int .i64 n] 3)).alloc (.cells #[] 3)).drew) [rowRes 3 1 (.slice (some ⟨W.heap.size + 1, 0, none⟩) 0 0) 0 [], blkRes W.heap.size (.cells #[.int .i64 n] 3 (0, 0))]) := by
        have h := (((Sep.nil W).alloc #[.int .i64 n] 3).row_made 3 1).drew
        rw [show (W.alloc (.cells #[.int .i64 n] 3)).heap.size = W.heap.size + 1 from by simp] at h
        exact h
      rcases HV.out with ⟨rfl, h0, rfl⟩ | ⟨g, rfl, hq⟩
      · obtain rfl : xs = [] := List.eq_nil_of_length_eq_zero h0
        obtain rfl : k = 0 := by simpa using hk
        simp only [List.length_nil, Int.ofNat_zero, Int.natCast_zero] at *
        go_wp2_with fail
        go_region_law (first | (refine step_append_src (w := W) (e := 3) rfl (.tmp 33) (.tmp 36) 28 rfl ii _ 1 8 Try.underlying28 II.out rfl (by decide) _ 0 [] rfl none 0 0 [] rfl rfl (by intro j u hu; simp at hu) (by simp) HA.out (by unfold maxLen; omega) (by omega) ?_; intro p4 q4 w4 hs4; (try rw [Nat.add_zero] at hs4); (try rw [List.append_nil] at hs4); have HS4 := Lib.hid hs4; clear hs4) | (refine step_append_src (w := W) (e := 3) rfl (.tmp 33) (.tmp 36) 28 rfl ii _ 1 8 Try.underlying28 II.out rfl (by decide) _ 0 [] rfl none 0 0 [] rfl rfl (by intro j u hu; simp at hu) (by simp) HB.out (by unfold maxLen; omega) (by omega) ?_; intro p4 q4 w4 hs4; (try rw [Nat.add_zero] at hs4); (try rw [List.append_nil] at hs4); have HS4 := Lib.hid hs4; clear hs4) | (refine step_append_src (w := W) (e := 3) rfl (.tmp 33) (.tmp 36) 28 rfl ii _ 1 8 Try.underlying28 II.out rfl (by decide) _ 0 [] rfl none 0 0 [] rfl rfl (by intro j u hu; simp at hu) (by simp) HC.out (by unfold maxLen; omega) (by omega) ?_; intro p4 q4 w4 hs4; (try rw [Nat.add_zero] at hs4); (try rw [List.append_nil] at hs4); have HS4 := Lib.hid hs4; clear hs4) | (refine step_append_sep (w := W) (cs := #[.int .i64 n]) (e := 3) (B := W.heap.size) rfl (.tmp 37) (.tmp 39) 28 rfl ii _ 1 8 Try.underlying28 II.out rfl (by decide) _ _ _ rfl rfl (HS4.out.up1.blk) rfl (by simp [Value.oneCell']) HS4.out (by unfold maxLen; omega) (by omega) ?_; intro p5 q5 w5 hs5; have HS5 := Lib.hid (hs5.up1.tail); clear hs5) | (refine step_append_sep (w := W) (cs := #[.int .i64 n]) (e := 3) (B := W.heap.size + 1) rfl (.tmp 37) (.tmp 39) 28 rfl ii _ 1 8 Try.underlying28 II.out rfl (by decide) _ _ _ rfl rfl (HS4.out.up1.blk) rfl (by simp [Value.oneCell']) HS4.out (by unfold maxLen; omega) (by omega) ?_; intro p5 q5 w5 hs5; have HS5 := Lib.hid (hs5.up1.tail); clear hs5) | (refine step_append_sep (w := W) (cs := #[.int .i64 n]) (e := 3) (B := w4.heap.size) rfl (.tmp 37) (.tmp 39) 28 rfl ii _ 1 8 Try.underlying28 II.out rfl (by decide) _ _ _ rfl rfl (heap_alloc_self) rfl (by simp [Value.oneCell']) (HS4.out.forget _) (by unfold maxLen; omega) (by omega) ?_; intro p5 q5 w5 hs5; have HS5 := Lib.hid (hs5); clear hs5) | (refine step_append_src (w := W) (e := 3) rfl (.tmp 40) (.tmp 43) 28 rfl ii _ 1 8 Try.underlying28 II.out rfl (by decide) _ _ _ rfl none 0 0 [] rfl rfl (by intro j u hu; simp at hu) (by simp) HS5.out (by unfold maxLen; omega) (by omega) ?_; intro p6 q6 w6 hs6; have HS6 := Lib.hid hs6; clear hs6))
        all_goals
          have HF : Hid (Sep W w6 [rowRes 3 1 (.slice p6 (putI [] n).length q6) (putI [] n).length (intCells (putI [] n))]) := HS6.out
          go_wp2_with fail
          go_ret
          exact ⟨p6, q6, rfl, HF.out⟩
      · have hkq : (k : Int) ≤ (q : Int) := by omega
        go_wp2_with fail
        go_region_law (first | (refine step_append_src (w := W) (e := 3) rfl (.tmp 33) (.tmp 36) 28 rfl ii _ 1 8 Try.underlying28 II.out rfl (by decide) _ 0 [] rfl (some ⟨g, 0, none⟩) k q (intCells (xs.take k)) rfl (by simp [intCells]; omega) (ints_src0 (H.out.only HA.out.old) k rfl) (intCells_one _) HA.out (by unfold maxLen; omega) (by omega) ?_; intro p4 q4 w4 hs4; (try rw [Nat.zero_add] at hs4); (try rw [List.nil_append] at hs4); have HS4 := Lib.hid hs4; clear hs4) | (refine step_append_src (w := W) (e := 3) rfl (.tmp 33) (.tmp 36) 28 rfl ii _ 1 8 Try.underlying28 II.out rfl (by decide) _ 0 [] rfl (some ⟨g, 0, none⟩) k q (intCells (xs.take k)) rfl (by simp [intCells]; omega) (ints_src0 (H.out.only HB.out.old) k rfl) (intCells_one _) HB.out (by unfold maxLen; omega) (by omega) ?_; intro p4 q4 w4 hs4; (try rw [Nat.zero_add] at hs4); (try rw [List.nil_append] at hs4); have HS4 := Lib.hid hs4; clear hs4) | (refine step_append_src (w := W) (e := 3) rfl (.tmp 33) (.tmp 36) 28 rfl ii _ 1 8 Try.underlying28 II.out rfl (by decide) _ 0 [] rfl (some ⟨g, 0, none⟩) k q (intCells (xs.take k)) rfl (by simp [intCells]; omega) (ints_src0 (H.out.only HC.out.old) k rfl) (intCells_one _) HC.out (by unfold maxLen; omega) (by omega) ?_; intro p4 q4 w4 hs4; (try rw [Nat.zero_add] at hs4); (try rw [List.nil_append] at hs4); have HS4 := Lib.hid hs4; clear hs4) | (refine step_append_sep (w := W) (cs := #[.int .i64 n]) (e := 3) (B := W.heap.size) rfl (.tmp 37) (.tmp 39) 28 rfl ii _ 1 8 Try.underlying28 II.out rfl (by decide) _ _ _ rfl rfl (HS4.out.up1.blk) rfl (by simp [Value.oneCell']) HS4.out (by unfold maxLen; omega) (by omega) ?_; intro p5 q5 w5 hs5; have HS5 := Lib.hid (hs5.up1.tail); clear hs5) | (refine step_append_sep (w := W) (cs := #[.int .i64 n]) (e := 3) (B := W.heap.size + 1) rfl (.tmp 37) (.tmp 39) 28 rfl ii _ 1 8 Try.underlying28 II.out rfl (by decide) _ _ _ rfl rfl (HS4.out.up1.blk) rfl (by simp [Value.oneCell']) HS4.out (by unfold maxLen; omega) (by omega) ?_; intro p5 q5 w5 hs5; have HS5 := Lib.hid (hs5.up1.tail); clear hs5) | (refine step_append_sep (w := W) (cs := #[.int .i64 n]) (e := 3) (B := w4.heap.size) rfl (.tmp 37) (.tmp 39) 28 rfl ii _ 1 8 Try.underlying28 II.out rfl (by decide) _ _ _ rfl rfl (heap_alloc_self) rfl (by simp [Value.oneCell']) (HS4.out.forget _) (by unfold maxLen; omega) (by omega) ?_; intro p5 q5 w5 hs5; have HS5 := Lib.hid (hs5); clear hs5) | (refine step_append_src (w := W) (e := 3) rfl (.tmp 40) (.tmp 43) 28 rfl ii _ 1 8 Try.underlying28 II.out rfl (by decide) _ _ _ rfl _ (xs.length - k) (q - k) (intCells (xs.drop k)) rfl (by simp [intCells]) (ints_srcI (H.out.only HS5.out.old) k q rfl hq) (intCells_one _) HS5.out (by unfold maxLen; omega) (by omega) ?_; intro p6 q6 w6 hs6; have HS6 := Lib.hid hs6; clear hs6))
        all_goals
          have hlen : (putI xs n).length = k + 1 + (xs.length - k) := by rw [HP.out, List.length_append, List.length_cons, List.length_take, List.length_drop]; omega
          have hcells : intCells (putI xs n) = intCells (xs.take k) ++ (#[Value.int .i64 n] : Array Value).toList ++ intCells (xs.drop k) := by rw [HP.out]; simp [intCells]
          have HF : Hid (Sep W w6 [rowRes 3 1 (.slice p6 (putI xs n).length q6) (putI xs n).length (intCells (putI xs n))]) := by
            show Sep _ _ _
            rw [hlen, hcells]
            exact HS6.out
          have HLEN := Lib.hid hlen
          clear hlen hcells
          go_wp2_with fail
          all_goals
            go_ret
            exact ⟨p6, q6, by (rw [HLEN.out]; try rfl), HF.out⟩

/-- What put leaves: the list with the number at its place, once. -/
theorem put_any (xs : List Int) (p : Option Addr) (q : Nat) (n : Int) (W : World) (hl : xs.length ≤ 1000000) (hr : Rising xs) (hv : RowV p xs.length q) (h : IntsAt W p xs) :
    Calls Try.prog 20 #[.slice p xs.length q, .int .i64 n] W fun e W' => ∃ p' q', e = .returned (.slice p' (putI xs n).length q') ∧ IntsAt W' p' (putI xs n) ∧ RowV p' (putI xs n).length q' ∧ Only [] W W' := by
  by_cases hin : n ∈ xs
  · refine (put_has xs p q n W (by omega) hr hin h).mono ?_
    rintro e w' ⟨rfl, rfl⟩
    obtain ⟨i, hi⟩ := List.getElem?_of_mem hin
    have e : putI xs n = xs := putI_has xs n i (fun x hx => by
      obtain ⟨hi1, hi2⟩ := List.getElem?_eq_some_iff.1 hi
      obtain ⟨j, hj⟩ := List.getElem?_of_mem hx
      rw [List.getElem?_take] at hj
      split at hj
      · rename_i hji
        obtain ⟨hj1, rfl⟩ := List.getElem?_eq_some_iff.1 hj
        rw [← hi2]
        exact List.pairwise_iff_getElem.1 hr _ _ hj1 hi1 hji
      · cases hj) hi
    rw [e]
    exact ⟨p, q, rfl, h, hv, Only.refl _ _⟩
  · refine (put_new xs p q n W hl hin hr hv h).mono ?_
    rintro e w' ⟨p', q', rfl, hs⟩
    exact ⟨p', q', rfl, hs.intsAt, hs.rowV, hs.old⟩

end Go.Proofs.Ytlgfegjfhagncaa
