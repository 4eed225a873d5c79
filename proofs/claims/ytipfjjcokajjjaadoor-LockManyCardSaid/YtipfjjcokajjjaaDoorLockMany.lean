/-
  What is proved here: the statement LockMany: just so many things are locked; one that is locked may be taken by more; for every input.
  No condition beyond the row's own (the table of the modes is as the program lays it).
-/
import Derived.Test.YtipfjjcokajjjaaDoorLkY
import Derived.Test.YtipfjjcokajjjaaDoorBytes
import Derived.Test.YtipfjjcokajjjaaDoorTie
import Derived.Test.YtipfjjcokajjjaaDoorCards
import Derived.LaidMore
import Derived.Lay
import Derived.SevenTiedAt
import Derived.Stop.Joined
import Derived.Deep.LoopGhost
namespace Go.Proofs.YtipfjjcokajjjaaDoor.lockMany
open Go.ChangeShapes Go.WideShapes Go.ChangeAt Go.RowKit Go.Proofs.YtipfjjcokajjjaaDoor
set_option linter.unusedVariables false
set_option linter.unusedSimpArgs false

theorem conv_two {V : World} {g : Nat} (c d : UInt8) {x y : Int} (hx : x = (c.toNat : Int)) (hy : y = (d.toNat : Int)) (h : V.heap[g]? = some (.cells #[.int .u8 x, .int .u8 y] 5 (0, 0))) : (convert 47 9 (.slice (some ⟨g, 0, none⟩) 2 2)).run Tryd.prog V = .ok (.string ⟨#[c, d]⟩) V := by
  subst hx hy
  exact run_bytes_text_block V 47 9 5 g [c, d] 2 Tryd.underlying47 Tryd.underlying5 Tryd.underlying9 h

def nmK (k : Nat) : ByteArray := ⟨#[UInt8.ofNat k, 120]⟩
def more : ByteArray := ⟨#[109, 111, 114, 101]⟩
theorem nmK_lt {k j : Nat} (h : k < j) (hj : j < 256) : ltB (nmK k) (nmK j) := by
  show [UInt8.ofNat k, (120 : UInt8)] < [UInt8.ofNat j, 120]
  rw [List.cons_lt_cons_iff]
  left
  rw [UInt8.lt_iff_toNat_lt, UInt8.toNat_ofNat', UInt8.toNat_ofNat']
  omega
def lone (y : Th) : Prop := y.has = [(1, 1)] ∧ y.q = []
def MN (i : Nat) : Tab := (List.range i).map (fun k => ⟨nmK k, [(1, 1)], []⟩)
theorem mn_mem {i : Nat} {y : Th} : y ∈ MN i ↔ ∃ k, k < i ∧ y = ⟨nmK k, [(1, 1)], []⟩ := by
  unfold MN
  rw [List.mem_map]
  constructor
  · rintro ⟨k, hk, rfl⟩; exact ⟨k, List.mem_range.1 hk, rfl⟩
  · rintro ⟨k, hk, rfl⟩; exact ⟨k, List.mem_range.2 hk, rfl⟩
theorem mn_lone {i : Nat} : ∀ y ∈ MN i, lone y := by
  intro y hy
  obtain ⟨k, _, rfl⟩ := mn_mem.1 hy
  exact ⟨rfl, rfl⟩
theorem lone_waits {t : Tab} (h : ∀ y ∈ t, y.q = []) (a : Int) : waitsM t a = none := by
  unfold waitsM
  rw [Option.map_eq_none_iff, List.find?_eq_none]
  intro y hy
  rw [h y hy]
  simp [modeL]
theorem get_none {t : Tab} {n : ByteArray} (h : ∀ y ∈ t, y.name ≠ n) : getT t n = none := by
  unfold getT
  rw [List.find?_eq_none]
  intro y hy
  simpa using h y hy
theorem m1 {i : Nat} (hlt : i < 256) : takeM (MN i) 1 (nmK i) 1 = (0, MN (i + 1)) := by
  have hs : (nmK i).size = 2 := rfl
  have hg : getT (MN i) (nmK i) = none := get_none (fun y hy => by
    obtain ⟨k, hk, rfl⟩ := mn_mem.1 hy
    exact ltB_ne (nmK_lt hk hlt))
  have hl : (MN i).length = i := by simp [MN]
  have hlo : lo (MN i) (nmK i) = MN i := List.filter_eq_self.2 fun y hy => by
    obtain ⟨k, hk, rfl⟩ := mn_mem.1 hy
    simpa using nmK_lt hk hlt
  have hhi : hi (MN i) (nmK i) = [] := List.filter_eq_nil_iff.2 fun y hy => by
    obtain ⟨k, hk, rfl⟩ := mn_mem.1 hy
    simp only [decide_eq_true_eq]
    exact ltB_asymm (nmK_lt hk hlt)
  unfold takeM
  rw [if_neg (by rw [hs]; omega), lone_waits (fun y hy => (mn_lone y hy).2), if_neg (by simp), if_neg (by unfold modeM; rw [hg]; simp), if_neg (by rw [hl]; omega), hg, hlo, show hi (MN i) (nmK i) = [] from hhi]
  simp only [Option.getD_none]
  have hgt : gets ⟨nmK i, [], []⟩ 1 1 = true := rfl
  have ht : takeT ⟨nmK i, [], []⟩ 1 1 = ⟨nmK i, [(1, 1)], []⟩ := by unfold takeT; rw [if_pos hgt]; rfl
  rw [ht]
  simp only [hgt, if_true]
  unfold MN
  rw [List.range_succ, List.map_append]
  rfl
theorem good_mn {i : Nat} (hi : i ≤ 256) : Good (MN i) := by
  induction i with
  | zero => exact good_nil
  | succ i ih =>
    have h := takeM_good (ih (by omega)) 1 (nmK i) 1
    rwa [m1 (by omega)] at h
theorem m2 : takeM (MN 256) 2 more 1 = (3, MN 256) := by
  have hs : more.size = 4 := rfl
  have hg : getT (MN 256) more = none := get_none (fun y hy e => by
    obtain ⟨k, hk, rfl⟩ := mn_mem.1 hy
    have := congrArg ByteArray.size e
    rw [hs] at this
    exact absurd this (by show (2 : Nat) ≠ 4; decide))
  have hl : (MN 256).length = 256 := by simp [MN]
  unfold takeM
  rw [if_neg (by rw [hs]; omega), lone_waits (fun y hy => (mn_lone y hy).2), if_neg (by simp), if_neg (by unfold modeM; rw [hg]; simp), if_pos ⟨hg, hl⟩]

def big (n : Nat) (q : HM) : Tab := lo (MN 256) (nmK n) ++ ⟨nmK n, [(1, 1), (2, 1)], q⟩ :: hi (MN 256) (nmK n)
theorem m3 {n : Nat} (hn : n < 256) : takeM (MN 256) 2 (nmK n) 1 = (0, big n []) := by
  have hs : (nmK n).size = 2 := rfl
  have hmem : (⟨nmK n, [(1, 1)], []⟩ : Th) ∈ MN 256 := mn_mem.2 ⟨n, hn, rfl⟩
  have hg : getT (MN 256) (nmK n) = some ⟨nmK n, [(1, 1)], []⟩ := by
    rcases split_sorted (good_mn (Nat.le_refl _)).sorted (nmK n) with ⟨y, a1, a2, a3, _⟩ | ⟨_, a2, _⟩
    · rw [a1, same_name (good_mn (Nat.le_refl _)) a3 hmem a2]
    · exact absurd rfl (a2 _ hmem)
  unfold takeM
  rw [if_neg (by rw [hs]; omega), lone_waits (fun y hy => (mn_lone y hy).2), if_neg (by simp), if_neg (by unfold modeM; rw [hg]; simp [modeL]), if_neg (by rw [hg]; simp), hg]
  simp only [Option.getD_some]
  have hgt : gets ⟨nmK n, [(1, 1)], []⟩ 2 1 = true := rfl
  have ht : takeT ⟨nmK n, [(1, 1)], []⟩ 2 1 = ⟨nmK n, [(1, 1), (2, 1)], []⟩ := by unfold takeT; rw [if_pos hgt]; rfl
  rw [ht]
  simp only [hgt, if_true]
  rfl
theorem m4 {n : Nat} (hn : n < 256) : takeM (big n []) 3 (nmK n) 2 = (120, big n [(3, 2)]) := by
  have hs : (nmK n).size = 2 := rfl
  have hgd : Good (big n []) := by
    have := takeM_good (good_mn (Nat.le_refl 256)) 2 (nmK n) 1
    rwa [m3 hn] at this
  have hmem : (⟨nmK n, [(1, 1), (2, 1)], []⟩ : Th) ∈ big n [] := by unfold big; simp
  have hg : getT (big n []) (nmK n) = some ⟨nmK n, [(1, 1), (2, 1)], []⟩ := by
    rcases split_sorted hgd.sorted (nmK n) with ⟨y, a1, a2, a3, _⟩ | ⟨_, a2, _⟩
    · rw [a1, same_name hgd a3 hmem a2]
    · exact absurd rfl (a2 _ hmem)
  have hq : ∀ y ∈ big n [], y.q = [] := by
    intro y hy
    unfold big at hy
    rcases List.mem_append.1 hy with a | a
    · exact (mn_lone y (List.mem_filter.1 a).1).2
    · rcases List.mem_cons.1 a with rfl | a
      · rfl
      · exact (mn_lone y (List.mem_filter.1 a).1).2
  have hlo : lo (big n []) (nmK n) = lo (MN 256) (nmK n) := by
    unfold lo big
    rw [List.filter_append, List.filter_cons_of_neg (by simp only [decide_eq_true_eq]; exact ltB_irrefl _)]
    unfold lo hi
    rw [List.filter_filter, List.filter_filter]
    have h1 : (MN 256).filter (fun a => decide (ltB a.name (nmK n)) && decide (ltB (nmK n) a.name)) = [] := List.filter_eq_nil_iff.2 fun y _ => by
      simp only [Bool.and_eq_true, decide_eq_true_eq, not_and]
      exact fun h => ltB_asymm h
    rw [h1]
    simp
  have hhi : hi (big n []) (nmK n) = hi (MN 256) (nmK n) := by
    unfold big
    conv => lhs; unfold hi
    rw [List.filter_append, List.filter_cons_of_neg (by simp only [decide_eq_true_eq]; exact ltB_irrefl _)]
    unfold lo hi
    rw [List.filter_filter, List.filter_filter]
    have h1 : (MN 256).filter (fun a => decide (ltB (nmK n) a.name) && decide (ltB a.name (nmK n))) = [] := List.filter_eq_nil_iff.2 fun y _ => by
      simp only [Bool.and_eq_true, decide_eq_true_eq, not_and]
      exact fun h => ltB_asymm h
    rw [h1]
    simp
  unfold takeM
  rw [if_neg (by rw [hs]; omega), lone_waits hq, if_neg (by simp), if_neg (by unfold modeM; rw [hg]; simp [modeL]), if_neg (by rw [hg]; simp), hg, hlo, hhi]
  simp only [Option.getD_some]
  have hgt : gets ⟨nmK n, [(1, 1), (2, 1)], []⟩ 3 2 = false := rfl
  have ht : takeT ⟨nmK n, [(1, 1), (2, 1)], []⟩ 3 2 = ⟨nmK n, [(1, 1), (2, 1)], [(3, 2)]⟩ := by unfold takeT; rw [if_neg (by rw [hgt]; simp)]; rfl
  rw [ht]
  simp only [hgt]
  rfl
theorem rel_app (s t : Tab) (h : Int) : relM (s ++ t) h = ((relM s h).1 ++ (relM t h).1, (relM s h).2 ++ (relM t h).2) := by
  unfold relM
  simp
theorem rel_lone {t : Tab} (h : ∀ y ∈ t, lone y) : relM t 1 = ([], []) := by
  induction t with
  | nil => rfl
  | cons y t ih =>
    have e : y :: t = [y] ++ t := rfl
    rw [e, rel_app, ih (fun z hz => h z (by simp [hz]))]
    obtain ⟨h1, h2⟩ := h y (by simp)
    obtain ⟨yn, yh, yq⟩ := y
    simp only at h1 h2
    subst h1 h2
    rfl
theorem m5 (n : Nat) : relM (big n [(3, 2)]) 1 = ([], [⟨nmK n, [(2, 1)], [(3, 2)]⟩]) := by
  unfold big
  have e : (⟨nmK n, [(1, 1), (2, 1)], [(3, 2)]⟩ :: hi (MN 256) (nmK n) : Tab) = [⟨nmK n, [(1, 1), (2, 1)], [(3, 2)]⟩] ++ hi (MN 256) (nmK n) := rfl
  have hA : relM (lo (MN 256) (nmK n)) 1 = ([], []) := rel_lone (fun y hy => mn_lone y (List.mem_filter.1 hy).1)
  have hB : relM (hi (MN 256) (nmK n)) 1 = ([], []) := rel_lone (fun y hy => mn_lone y (List.mem_filter.1 hy).1)
  rw [e, rel_app, rel_app, hA, hB]
  rfl
theorem m6 (n : Nat) : (takeM [⟨nmK n, [(2, 1)], [(3, 2)]⟩] 2 more 2).1 = 0 := by
  have hs : more.size = 4 := rfl
  have hg : getT [(⟨nmK n, [(2, 1)], [(3, 2)]⟩ : Th)] more = none := get_none (fun y hy e => by
    simp at hy
    subst hy
    have := congrArg ByteArray.size e
    rw [hs] at this
    exact absurd this (by show (2 : Nat) ≠ 4; decide))
  have hw : waitsM [(⟨nmK n, [(2, 1)], [(3, 2)]⟩ : Th)] 2 = none := rfl
  unfold takeM
  rw [if_neg (by rw [hs]; omega), hw, if_neg (by simp), if_neg (by unfold modeM; rw [hg]; simp), if_neg (by simp), hg]
  rfl

set_option maxRecDepth 100000 in
set_option maxHeartbeats 8000000 in
theorem walk (n : Int) (w : World) (hn : 0 ≤ n ∧ n ≤ 255) (htog : Tog w) :
    Calls Tryd.prog 6 #[.int .u8 n] w fun e w' => e = .returned (.bool true) ∧ Only [] w w' := by
  have HT := Lib.hid htog
  have HN := Lib.hid (Sep.nil w)
  obtain ⟨n', rfl⟩ : ∃ n' : Nat, n = n' := ⟨n.toNat, by omega⟩
  clear htog
  go_enter Tryd.func6, Tryd.ntmps6
  go_wp2_with (go_at_call 10; refine (new_any HN.out).mono ?_; rintro e w1 ⟨b, rfl, hs1⟩; have HS1 := Lib.hid hs1; clear hs1)
  go_loopg [4] 256 (fun gg s4 wr => ∃ i : Nat, i ≤ 256 ∧ 256 - i ≤ gg ∧ s4 = .int .i64 i ∧ Aside (Sep w wr [tabRes b (MN i)]))
  case atStart => exact ⟨0, by omega, by omega, rfl, HS1.out⟩
  case round =>
    obtain ⟨i, hi, hgg, rfl, HS⟩ := hrel
    have hsw : Sep w wr [tabRes b (MN i)] := HS
    clear HS1
    by_cases hlt : i < 256
    · have hlz : (i : Int) < 256 := by omega
      have hcv := conv_two (V := wr.alloc (.cells #[.int .u8 i, .int .u8 120] 5)) (g := wr.heap.size) (UInt8.ofNat i) 120 (x := i) (y := 120) (by rw [UInt8.toNat_ofNat']; omega) rfl heap_alloc_self
      have hc := take_any (good_mn (by omega)) HT.out 1 (nmK i) 1 (hsw.forget (.cells #[.int .u8 i, .int .u8 120] 5))
      rw [m1 hlt] at hc
      have HC : Hid (Calls Tryd.prog 13 #[.pointer (some ⟨b, 0, none⟩), .int .i64 1, .string ⟨#[UInt8.ofNat i, 120]⟩, .int .i64 1] (wr.alloc (.cells #[.int .u8 i, .int .u8 120] 5)) fun e W' => e = .returned (.int .i64 0) ∧ Sep w W' [tabRes b (MN (i + 1))]) := Lib.hid hc
      clear hc hsw HS
      go_wp2_with fail
      refine HC.out.mono ?_
      rintro e w2 ⟨rfl, hs2⟩
      have HS2 := Lib.hid hs2
      clear hs2
      go_wp2_with fail
      go_roundg (256 - (i + 1))
      case measure => omega
      case rel => exact ⟨i + 1, by omega, by omega, by go_num, HS2.out⟩
    · have hi256 : i = 256 := by omega
      subst hi256
      have hc := take_any (good_mn (Nat.le_refl 256)) HT.out 2 more 1 hsw
      rw [m2] at hc
      have HC : Hid (Calls Tryd.prog 13 #[.pointer (some ⟨b, 0, none⟩), .int .i64 2, .string ⟨#[109, 111, 114, 101]⟩, .int .i64 1] wr fun e W' => e = .returned (.int .i64 3) ∧ Sep w W' [tabRes b (MN 256)]) := Lib.hid hc
      clear hc hsw HS
      go_wp2_with fail
      refine HC.out.mono ?_
      rintro e w2 ⟨rfl, hs2⟩
      have hcv := conv_two (V := w2.alloc (.cells #[.int .u8 n', .int .u8 120] 5)) (g := w2.heap.size) (UInt8.ofNat n') 120 (x := n') (y := 120) (by rw [UInt8.toNat_ofNat']; omega) rfl heap_alloc_self
      have hc := take_any (good_mn (Nat.le_refl 256)) HT.out 2 (nmK n') 1 (hs2.forget (.cells #[.int .u8 n', .int .u8 120] 5))
      have hg1 := takeM_good (good_mn (Nat.le_refl 256)) 2 (nmK n') 1
      rw [m3 (by omega)] at hc hg1
      have HG1 := Lib.hid hg1
      have HC2 : Hid (Calls Tryd.prog 13 #[.pointer (some ⟨b, 0, none⟩), .int .i64 2, .string ⟨#[UInt8.ofNat n', 120]⟩, .int .i64 1] (w2.alloc (.cells #[.int .u8 n', .int .u8 120] 5)) fun e W' => e = .returned (.int .i64 0) ∧ Sep w W' [tabRes b (big n' [])]) := Lib.hid hc
      clear hc hs2 hg1
      go_wp2_with fail
      refine HC2.out.mono ?_
      rintro e w3 ⟨rfl, hs3⟩
      have hcv3 := conv_two (V := w3.alloc (.cells #[.int .u8 n', .int .u8 120] 5)) (g := w3.heap.size) (UInt8.ofNat n') 120 (x := n') (y := 120) (by rw [UInt8.toNat_ofNat']; omega) rfl heap_alloc_self
      have hc := take_any HG1.out HT.out 3 (nmK n') 2 (hs3.forget (.cells #[.int .u8 n', .int .u8 120] 5))
      have hg2 := takeM_good HG1.out 3 (nmK n') 2
      rw [m4 (by omega)] at hc hg2
      have HG2 := Lib.hid hg2
      have HC3 : Hid (Calls Tryd.prog 13 #[.pointer (some ⟨b, 0, none⟩), .int .i64 3, .string ⟨#[UInt8.ofNat n', 120]⟩, .int .i64 2] (w3.alloc (.cells #[.int .u8 n', .int .u8 120] 5)) fun e W' => e = .returned (.int .i64 120) ∧ Sep w W' [tabRes b (big n' [(3, 2)])]) := Lib.hid hc
      clear hc hs3 hg2 hcv
      go_wp2_with fail
      refine HC3.out.mono ?_
      rintro e w4 ⟨rfl, hs4⟩
      have hc := release_any HG2.out HT.out 1 hs4
      have hg3 := relM_good HG2.out 1
      rw [m5] at hc hg3
      have HC4 := Lib.hid hc
      have HG3 := Lib.hid hg3
      clear hc hs4 hg3 hcv3
      go_wp2_with fail
      refine HC4.out.mono ?_
      rintro e w5 ⟨p5, q5, rfl, hs5⟩
      have HC5 := Lib.hid (things_any HG3.out hs5.up1)
      clear hs5
      go_wp2_with fail
      refine HC5.out.mono ?_
      rintro e w6 ⟨p6, q6, rfl, hs6⟩
      have hc := take_any HG3.out HT.out 2 more 2 hs6.up1
      rw [m6] at hc
      have HC6 : Hid (Calls Tryd.prog 13 #[.pointer (some ⟨b, 0, none⟩), .int .i64 2, .string ⟨#[109, 111, 114, 101]⟩, .int .i64 2] w6 fun e W' => e = .returned (.int .i64 0) ∧ Only [] w W') := Lib.hid (hc.mono (by rintro e W' ⟨rfl, h⟩; exact ⟨rfl, h.old⟩))
      clear hc hs6
      go_wp2_with fail
      refine HC6.out.mono ?_
      rintro e w7 ⟨rfl, ho7⟩
      have HO7 := Lib.hid ho7
      clear ho7
      go_wp2_with fail
      refine (wakes_any w7 (HT.out.only HO7.out)).mono ?_
      rintro e w8 ⟨rfl, ho8⟩
      have HO8 := Lib.hid (HO7.out.trans ho8 (Within.nil _ _))
      clear ho8
      go_wp2_with fail
      go_ret
      exact ⟨rfl, HO8.out⟩

set_option maxRecDepth 100000 in
theorem lifted (os : Os) (started : os.Started) (H : Type) (enc : TypeId × Value → H) :
    ReturnsInHanded {} Tryd.checked os 6 .any (fun w args => (Rows.lockManySpec.pre enc Tryd.prog Tryd.f6 Rows.lockManyRow.domain false w args ∧ laidMetH Tryd.prog Rows.lockManyRow.laid w) ∧ sizedMet enc Tryd.prog Tryd.f6 (OpenSpec.ofChange Rows.lockManySpec) false w args)
      (Rows.lockManySpec.post enc Tryd.prog Tryd.f6 false true false false) := by
  refine returnsInHanded_of_change_and (C := Tryd.checked) (X := fun w _ => laidMetH Tryd.prog Rows.lockManyRow.laid w) (fun _ _ _ hh h => h.of_heap hh) own started (by kernel_rfl) Tryd.func6
    (ChangeSpec.witness_shaped (enc := enc) (C := Tryd.checked) (os := os) (X := fun w _ => laidMetH Tryd.prog Rows.lockManyRow.laid w) false (World.laidAll Tryd.prog os Rows.lockManyRow.laid) #[.int .u8 0] 8 (World.laidAll_os _ _ _)
      (World.shaped_of_ZipB (by kernel_rfl) (by kernel_rfl)) (by kernel_rfl) (by kernel_rfl) (by kernel_rfl)
      (by rw [MakeChecks.laidMetH_plain _ _ _ (by kernel_rfl)]; exact laidMet_laidAll _ (by kernel_rfl) (by kernel_rfl))) ?_
  intro W base args ds gs before hval0 hW _ _ hL _
  have htog : Tog W := tog_of_laid hL
  have hval : ∀ (j : Nat) t v, Tryd.f6.params[j]? = some t → args[j]? = some v → Value.okWide Tryd.prog W .any base t v := hval0
  have hW' := hW
  obtain ⟨pp, pq, hA0, hV, rfl, hfz, hnd⟩ := hW
  have hA : DataW.TrodAll enc Tryd.prog W 0 (fun _ => true) true Tryd.f6.params.toList args.toList ds pp := hA0
  rw [Tryd.params6] at hA hval
  obtain ⟨v0, vs0, d0, ds0, p0, q0, hargs, rfl, rfl, h0, r0⟩ := trodAll_cons hA
  obtain ⟨rfl, rfl, rfl⟩ := trodAll_nil r0
  obtain rfl : args = #[v0] := by cases args; simp_all
  obtain ⟨rfl, rfl⟩ := trodVars_none hV
  obtain ⟨a0, rfl, rfl, rfl, w0⟩ := open_int Tryd.underlying5 (hval 0 5 v0 rfl rfl) h0
  clear hA0 hval0
  simp only [List.append_nil] at hW'
  refine (walk a0 W (bounds_u8 w0) htog).mono fun e W' ⟨he, hg⟩ => ?_
  subst he
  have hb : Below W.heap.size W W' := hg.below (Nat.le_refl _) (by simp)
  exact ⟨_, rfl, _, _, _, [], _, [], hW', trodAll_cons_mk (shut_bool Tryd.underlying4 _) trodAll_mk0, (trodAll_cons_mk (shut_int Tryd.underlying5 w0) trodAll_mk0), rfl, hb.frame _, fun h => by cases h⟩

theorem over : Rows.LockManySaid :=
  OpenClaim.holds_of_wide 6 Tryd.f6 rfl rfl rfl rfl rfl rfl rfl ⟨rfl, rfl, rfl, rfl, rfl⟩ rfl rfl rfl rfl rfl (by kernel_rfl) Tryd.func6 (by kernel_rfl)
    (of_decide_eq_true (by kernel_rfl)) (by unfold Func.isWrapper; first | (rw [if_pos (by decide +kernel)]; kernel_rfl) | (rw [if_neg (by decide +kernel)]; exact ⟨rfl, rfl⟩))
    (fun os started H enc _ => lifted os started H enc)

theorem proved : Rows.LockManyCardSaid :=
  Claim7.holds_tied_plain_at .later [] [.data] true Rows.lockManyCard.stood.harness false over (fun _ h => by cases h) (by kernel_rfl) (fun _ h => by cases h) lockMany_row_tie rfl ⟨rfl, rfl⟩ (by kernel_rfl) rfl
    (fun f fn hf hfn => by
      obtain rfl : f = 6 := Option.some.inj ((show Tryd.prog.funcNamed "hedgerow/hedgerowlaw12.LockMany" = some 6 by kernel_rfl).symm.trans hf) |>.symm
      obtain rfl : fn = Tryd.f6 := (Option.some.inj (Tryd.func6.symm.trans hfn)).symm
      exact ⟨by kernel_rfl, fun j t ht => by
        rw [Tryd.params6] at ht
        have hm : t ∈ [5] := by simpa using Array.mem_of_getElem? ht
        have hall : ([5].all fun u => !Tryd.prog.wantsStandIn u) = true := by kernel_rfl
        exact (show Tryd.prog.wantsStandIn t = false by simpa using List.all_eq_true.1 hall t hm)⟩)
    (by kernel_rfl)
#print axioms proved
end Go.Proofs.YtipfjjcokajjjaaDoor.lockMany
