/-
  What is proved here: the document's Reach, Circle, Victim.
  Condition: there are at most 1000 edges.
-/
import Derived.Test.YtlgfegjfhagncaaRef13P
set_option linter.unusedSimpArgs false
set_option linter.unusedVariables false
namespace Go.Proofs.Ytlgfegjfhagncaa
open Go.RowKit

def lenV : Value → Nat
  | .slice _ n _ => n
  | _ => 0
def boolN : Value → Nat
  | .bool true => 1
  | _ => 0

theorem putI_length {xs : List Int} {n : Int} (h : n ∉ xs) : (putI xs n).length = xs.length + 1 := by
  induction xs with
  | nil => rfl
  | cons x t ih =>
    simp only [List.mem_cons, not_or] at h
    simp only [putI]
    split
    · rw [List.length_cons, ih h.2, List.length_cons]
    · rw [if_neg (fun e => h.1 e.symm)]; rfl

theorem path_le {l : Edges} {a : Int} {xs : List Int} (hr : Rising xs) (h : ∀ y ∈ xs, Path l a y) : xs.length ≤ l.length := by
  have hsub : xs ⊆ l.map Prod.snd := by
    intro y hy
    obtain ⟨c, hc⟩ := (h y hy).last
    exact List.mem_map.2 ⟨_, hc, rfl⟩
  have := List.Nodup.length_le_of_subset (hr.imp fun h => by omega) hsub
  simpa using this

/-- What the document's Reach holds while it goes on. -/
structure Out (l : Edges) (a : Int) (W w : World) (out : List Int) (p : Option Addr) (q : Nat) : Prop where
  rising : Rising out
  path : ∀ y ∈ out, Path l a y
  ints : IntsAt w p out
  row : RowV p out.length q
  old : Only [] W w
theorem Out.le {l : Edges} {a : Int} {W w : World} {out : List Int} {p : Option Addr} {q : Nat} (h : Out l a W w out p q) : out.length ≤ l.length := path_le h.rising h.path

def ShutAt (a : Int) (out : List Int) (e : Int × Int) : Prop := (e.1 = a ∨ e.1 ∈ out) → e.2 ∈ out

set_option maxRecDepth 100000 in
set_option maxHeartbeats 4000000 in
theorem rreach_any {W : World} {p : Option Addr} {l : Edges} (q : Nat) (hE : EdgesAt W p l) (hl : l.length ≤ 1000) (a : Int) :
    Calls Try.prog 13 #[.slice p l.length q, .int .i64 a] W fun r W' => ∃ xs p q, r = .returned (.slice p (List.length xs) q) ∧ IsReach l a xs ∧ IntsAt W' p xs ∧ Only [] W W' := by
  have HE := Lib.hid hE
  clear hE
  go_enter Try.func13, Try.ntmps13
  go_wp2_with fail
  go_loopw [5, 6] (fun s5 s6 wx => ∃ (out : List Int) (po : Option Addr) (qo : Nat) (ag : Bool), s6 = .bool ag ∧ s5 = .slice po out.length qo ∧ Out l a W wx out po qo ∧ (ag = false → ∀ e ∈ l, ShutAt a out e)) (fun s5 s6 _ => 2 * (l.length - lenV s5) + boolN s6)
  case atStart => exact ⟨[], none, 0, true, rfl, rfl, ⟨List.Pairwise.nil, by simp, by intro k x h; simp at h, .inl ⟨rfl, rfl, rfl⟩, Only.refl _ _⟩, fun h => by cases h⟩
  case round =>
    obtain ⟨out, po, qo, ag, rfl, rfl, ho, hc⟩ := hrel
    obtain ⟨Wi, rfl⟩ : ∃ Wi, Wi = wr := ⟨_, rfl⟩
    have hol := ho.le
    have HO := Lib.hid ho
    clear ho
    cases ag with
    | false =>
      have HC := Lib.hid (hc rfl)
      clear hc
      go_wp2_with fail
      try rw [Exit.noGoto_ret]
      go_ret
      exact ⟨out, po, qo, rfl, ⟨HO.out.rising, fun y => ⟨HO.out.path y, fun h => closed_reach (fun e he hx => HC.out e he hx) h⟩⟩, HO.out.ints, HO.out.old⟩
    | true =>
      clear hc
      go_wp2_with fail
      go_loopw [5, 6, 7] (fun s5 s6 s7 wx => ∃ (i : Nat) (out' : List Int) (po : Option Addr) (qo : Nat) (ag : Bool), i ≤ l.length ∧ s7 = .int .i64 i ∧ s6 = .bool ag ∧ s5 = .slice po out'.length qo ∧ Out l a W wx out' po qo ∧ out.length ≤ out'.length ∧ (ag = true → out.length < out'.length) ∧ (ag = false → ∀ e ∈ l.take i, ShutAt a out' e)) (fun _ _ s7 _ => l.length - (intOf s7).toNat)
      case atStart => exact ⟨0, out, po, qo, false, Nat.zero_le _, rfl, rfl, rfl, HO.out, Nat.le_refl _, fun h => (by cases h), fun _ => (by simp)⟩
      case round =>
        obtain ⟨i, ot, pt, qt, ag, hi, rfl, rfl, rfl, ho, hle, hag, hcl⟩ := hrel
        obtain ⟨wx, rfl⟩ : ∃ wx, wx = wr := ⟨_, rfl⟩
        have hol2 := ho.le
        have HOT := Lib.hid ho
        have HAG := Lib.hid hag
        have HCL := Lib.hid hcl
        clear ho hag hcl
        by_cases hlt : i < l.length
        · obtain ⟨⟨x, y⟩, he⟩ : ∃ e, l[i]? = some e := ⟨_, List.getElem?_eq_getElem hlt⟩
          obtain ⟨b, o, rfl, _, c0, c1⟩ := (HE.out.only HOT.out.old) i _ he
          have HX := Lib.hid he
          have HHX := Lib.hid (has_any ot pt qt x wx (by omega) HOT.out.ints)
          have HHY := Lib.hid (has_any ot pt qt y wx (by omega) HOT.out.ints)
          simp only at c0 c1
          clear he
          go_upto_region 8 with fail
          go_cut [40] (fun s40 wy => s40 = .bool (decide ((x = a ∨ x ∈ ot) ∧ y ∉ ot)) ∧ wx = wy)
          case first =>
            by_cases hxa : x = a
            · have hb : (x == a) = true := by simp [hxa]
              go_wp2_with fail
              refine HHY.out.mono ?_
              rintro r w1 ⟨rfl, rfl⟩
              go_wp2_with fail
              go_meet
              exact ⟨by simp [hxa], rfl⟩
            · have hb : (x == a) = false := by simp [hxa]
              go_wp2_with fail
              refine HHX.out.mono ?_
              rintro r w1 ⟨rfl, rfl⟩
              by_cases hxo : x ∈ ot
              · rw [decide_eq_true hxo]
                go_wp2_with fail
                refine HHY.out.mono ?_
                rintro r w1 ⟨rfl, rfl⟩
                go_wp2_with fail
                go_meet
                exact ⟨by simp [hxo], rfl⟩
              · rw [decide_eq_false hxo]
                go_wp2_with fail
                go_meet
                exact ⟨by simp [hxa, hxo], rfl⟩
          case rest =>
            obtain ⟨rfl, rfl⟩ := hcut
            clear HHX HHY
            by_cases hcond : (x = a ∨ x ∈ ot) ∧ y ∉ ot
            · rw [decide_eq_true hcond]
              have hp : Path l a y := by
                rcases hcond.1 with rfl | hx
                · exact .one (List.mem_of_getElem? HX.out)
                · exact .more (HOT.out.path x hx) (List.mem_of_getElem? HX.out)
              have HP := Lib.hid hp
              have HLN := Lib.hid (putI_length hcond.2)
              have HPUT := Lib.hid (put_any ot pt qt y wx (by omega) HOT.out.rising HOT.out.row HOT.out.ints)
              clear hp hcond
              go_wp2_with fail
              refine HPUT.out.mono ?_
              rintro r w2 ⟨p2, q2, rfl, hi2, hr2, ho2⟩
              have HN : Hid (Out l a W w2 (putI ot y) p2 q2) := ⟨HOT.out.rising.put y, fun z hz => by
                rcases (mem_putI ot y z).1 hz with rfl | hz
                · exact HP.out
                · exact HOT.out.path z hz, hi2, hr2, HOT.out.old.trans ho2 (Within.nil _ _)⟩
              clear hi2 hr2 ho2 HPUT
              go_wp2_with fail
              go_roundw
              case rel => exact ⟨i + 1, putI ot y, p2, q2, true, by omega, by go_num, rfl, rfl, HN.out, by rw [HLN.out]; omega, fun _ => by rw [HLN.out]; omega, fun h => by cases h⟩
              case measure => simp [intOf]; omega
            · rw [decide_eq_false hcond]
              have HN : Hid (ag = false → ∀ e ∈ l.take (i + 1), ShutAt a ot e) := by
                intro hag e he
                rw [List.take_add_one, HX.out] at he
                rcases List.mem_append.1 he with h | h
                · exact HCL.out hag e h
                · simp at h
                  subst h
                  intro hx
                  rcases Classical.em (y ∈ ot) with h | h
                  · exact h
                  · exact absurd ⟨hx, h⟩ hcond
              clear hcond
              go_wp2_with fail
              go_roundw
              case rel => exact ⟨i + 1, ot, pt, qt, ag, by omega, by go_num, rfl, rfl, HOT.out, by omega, HAG.out, HN.out⟩
              case measure => simp [intOf]; omega
        · have HCA : Hid (ag = false → ∀ e ∈ l, ShutAt a ot e) := by
            intro h e he
            have := HCL.out h
            rw [List.take_of_length_le (by omega)] at this
            exact this e he
          have hmeas : 2 * (l.length - ot.length) + boolN (.bool ag) < 2 * (l.length - out.length) + 1 := by
            cases ag with
            | true => have := HAG.out rfl; simp only [boolN]; omega
            | false => simp only [boolN]; omega
          have HM := Lib.hid hmeas
          clear hmeas
          go_wp2_with fail
          go_roundw
          case rel => exact ⟨ot, pt, qt, ag, rfl, rfl, HOT.out, HCA.out⟩
          case measure => exact HM.out

set_option maxRecDepth 100000 in
set_option maxHeartbeats 4000000 in
theorem rcircle_any {W : World} {p : Option Addr} {l : Edges} (q : Nat) (hE : EdgesAt W p l) (hl : l.length ≤ 1000) :
    Calls Try.prog 15 #[.slice p l.length q] W fun r W' => ∃ xs p q, r = .returned (.slice p (List.length xs) q) ∧ IsCircle l xs ∧ IntsAt W' p xs ∧ Only [] W W' := by
  have mixed : Try.prog.follows .mixedOrders = true := by kernel_rfl
  have HE := Lib.hid hE
  clear hE
  go_enter Try.func15, Try.ntmps15
  go_wp2_with fail
  go_loopw [3, 4] (fun s3 s4 wx => ∃ (i : Nat) (out : List Int) (po : Option Addr) (qo : Nat), i ≤ l.length ∧ s4 = .int .i64 i ∧ s3 = .slice po out.length qo ∧ Rising out ∧ (∀ y, y ∈ out ↔ (∃ e ∈ l.take i, e.1 = y) ∧ Path l y y) ∧ IntsAt wx po out ∧ RowV po out.length qo ∧ Only [] W wx) (fun _ s4 _ => l.length - (intOf s4).toNat)
  case atStart => exact ⟨0, [], none, 0, Nat.zero_le _, rfl, rfl, List.Pairwise.nil, by simp, by intro k x h; simp at h, .inl ⟨rfl, rfl, rfl⟩, Only.refl _ _⟩
  case round =>
    obtain ⟨i, out, po, qo, hi, rfl, rfl, hr, hm, hin, hrv, ho⟩ := hrel
    obtain ⟨wx, rfl⟩ : ∃ wx, wx = wr := ⟨_, rfl⟩
    have hol : out.length ≤ l.length := by
      have hsub : out ⊆ l.map Prod.fst := by
        intro y hy
        obtain ⟨⟨e, he, rfl⟩, _⟩ := (hm y).1 hy
        exact List.mem_map.2 ⟨_, List.mem_of_mem_take he, rfl⟩
      have := List.Nodup.length_le_of_subset (hr.imp fun h => by omega) hsub
      simpa using this
    have HR := Lib.hid hr
    have HM := Lib.hid hm
    have HIN := Lib.hid hin
    have HRV := Lib.hid hrv
    have HO := Lib.hid ho
    clear hr hm hin hrv ho
    by_cases hlt : i < l.length
    · obtain ⟨⟨x, y⟩, he⟩ : ∃ e, l[i]? = some e := ⟨_, List.getElem?_eq_getElem hlt⟩
      obtain ⟨b, o, hp, hb, c0, _⟩ := (HE.out.only HO.out) i _ he
      have HX : Hid (∀ z, (∃ e ∈ l.take (i + 1), e.1 = z) ↔ (∃ e ∈ l.take i, e.1 = z) ∨ x = z) := by
        intro z
        rw [List.take_add_one, he]
        simp only [List.mem_append, Option.toList_some, List.mem_singleton, or_and_right, exists_or, exists_eq_left]
      have HRE := Lib.hid (rreach_any q ((HE.out.only HO.out).only (Only.drew [] wx)) hl x)
      simp only at c0
      subst hp
      clear he
      go_upto_region 5 with fail
      go_cut [23] (fun s23 wy => (∃ c : Bool, s23 = .bool c ∧ (c = true ↔ Path l x x)) ∧ Only [] wx wy)
      case first =>
        go_region_held3 (fun w' => w'.cell? ⟨b, o + i * 2, none⟩ = some (.int .i64 x)) (first | go_keep | assumption) (first | (go_at_call 13; refine HRE.out.mono ?_; rintro r w4 ⟨xs, px, qx, rfl, hre, hi4, ho4⟩; have k0 : w4.cell? ⟨b, o + i * 2, none⟩ = some (.int .i64 x) := (by rw [(Only.trans (Only.drew [] wx) ho4 (Within.nil _ _)).cell hb (by simp)]; exact c0); have HRX := Lib.hid hre; have HOX := Lib.hid (Only.trans (Only.drew [] wx) ho4 (Within.nil _ _)); have HHAS := Lib.hid (has_any xs px qx x w4 (by have := hre.le; omega) hi4); clear hre ho4 hi4) | (go_at_call 19; refine HHAS.out.mono ?_; rintro r w5 ⟨rfl, rfl⟩))
        all_goals
          go_wp2_with fail
          go_meet
          exact ⟨⟨_, rfl, by rw [decide_eq_true_iff]; exact HRX.out.2 x⟩, HOX.out⟩
      case rest =>
        obtain ⟨⟨c, rfl, hc⟩, ho2⟩ := hcut
        have HO2 := Lib.hid (HO.out.trans ho2 (Within.nil _ _))
        have HIN2 := Lib.hid (HIN.out.only ho2)
        have c0' : wc.cell? ⟨b, o + i * 2, none⟩ = some (.int .i64 x) := by rw [ho2.cell hb (by simp)]; exact c0
        clear c0 ho2 HRE
        cases c with
        | true =>
          have HP := Lib.hid (hc.1 rfl)
          have HPUT := Lib.hid (put_any out po qo x wc (by omega) HR.out HRV.out HIN2.out)
          clear hc
          go_wp2_with fail
          refine HPUT.out.mono ?_
          rintro r w6 ⟨p6, q6, rfl, hi6, hr6, ho6⟩
          have HN : Hid (∀ z, z ∈ putI out x ↔ (∃ e ∈ l.take (i + 1), e.1 = z) ∧ Path l z z) := by
            intro z
            rw [mem_putI, HM.out z, HX.out z]
            constructor
            · rintro (rfl | ⟨h1, h2⟩)
              · exact ⟨.inr rfl, HP.out⟩
              · exact ⟨.inl h1, h2⟩
            · rintro ⟨h1 | rfl, h2⟩
              · exact .inr ⟨h1, h2⟩
              · exact .inl rfl
          have HI6 := Lib.hid hi6
          have HR6 := Lib.hid hr6
          have HO6 := Lib.hid (HO2.out.trans ho6 (Within.nil _ _))
          clear hi6 hr6 ho6 HPUT
          go_wp2_with fail
          go_roundw
          case rel => exact ⟨i + 1, putI out x, p6, q6, by omega, by go_num, rfl, HR.out.put x, HN.out, HI6.out, HR6.out, HO6.out⟩
          case measure => simp [intOf]; omega
        | false =>
          have hnp : ¬ Path l x x := fun h => by have := hc.2 h; cases this
          have HN : Hid (∀ z, z ∈ out ↔ (∃ e ∈ l.take (i + 1), e.1 = z) ∧ Path l z z) := by
            intro z
            rw [HM.out z, HX.out z]
            constructor
            · rintro ⟨h1, h2⟩
              exact ⟨.inl h1, h2⟩
            · rintro ⟨h1 | rfl, h2⟩
              · exact ⟨h1, h2⟩
              · exact absurd h2 hnp
          clear hc hnp
          go_wp2_with fail
          go_roundw
          case rel => exact ⟨i + 1, out, po, qo, by omega, by go_num, rfl, HR.out, HN.out, HIN2.out, HRV.out, HO2.out⟩
          case measure => simp [intOf]; omega
    · have HF : Hid (IsCircle l out) := by
        refine ⟨HR.out, fun y => ?_⟩
        rw [HM.out y, List.take_of_length_le (by omega)]
        constructor
        · exact fun h => h.2
        · intro h
          obtain ⟨c, hc⟩ := h.first
          exact ⟨⟨_, hc, rfl⟩, h⟩
      go_wp2_with fail
      try rw [Exit.noGoto_ret]
      go_ret
      exact ⟨out, po, qo, rfl, HF.out, HIN.out, HO.out⟩

set_option maxRecDepth 100000 in
theorem rvictim_any {W : World} {p : Option Addr} {l : Edges} (q : Nat) (hE : EdgesAt W p l) (hl : l.length ≤ 1000) :
    Calls Try.prog 10 #[.slice p l.length q] W fun r W' => ∃ xs, r = .returned (.tuple #[.int .i64 (lastI xs), .bool (decide (xs ≠ []))]) ∧ IsCircle l xs ∧ Only [] W W' := by
  have HC := Lib.hid (rcircle_any q hE hl); clear hE
  go_enter Try.func10, Try.ntmps10
  go_wp2_with fail
  refine HC.out.mono ?_
  rintro r w1 ⟨xs, pr, qr, rfl, hc, hi, ho⟩
  have hle := hc.le
  have HI := Lib.hid hi
  have HO := Lib.hid (And.intro hc ho)
  clear hi hc ho HC
  by_cases h0 : xs = []
  · subst h0
    simp only [List.length_nil]
    go_wp2_with fail
    go_ret2
    exact ⟨[], rfl, HO.out.1, HO.out.2⟩
  · have hp : 0 < xs.length := List.length_pos_iff.2 h0
    obtain ⟨y, hy⟩ : ∃ y, xs[xs.length - 1]? = some y := ⟨_, List.getElem?_eq_getElem (by omega)⟩
    obtain ⟨b, o, rfl, _, c0⟩ := HI.out _ y hy
    have HY : Hid (lastI xs = y) := by show _ = _; unfold lastI; rw [List.getLast?_eq_getElem?, hy]; rfl
    have HN := Lib.hid h0
    have hz : ((xs.length : Int) == 0) = false := by rw [beq_eq_false_iff_ne]; omega
    clear hy h0
    obtain ⟨n, hn⟩ : ∃ n, n = xs.length := ⟨_, rfl⟩
    have HNN := Lib.hid hn
    rw [← hn] at hz c0 hp hle ⊢
    obtain ⟨m, rfl⟩ : ∃ m, n = m + 1 := ⟨n - 1, by omega⟩
    rw [show o + (m + 1 - 1) = o + m by omega] at c0
    clear hn
    go_wp2_with fail
    go_ret2
    exact ⟨xs, by rw [HY.out, decide_eq_true HN.out]; rfl, HO.out.1, HO.out.2⟩

end Go.Proofs.Ytlgfegjfhagncaa
