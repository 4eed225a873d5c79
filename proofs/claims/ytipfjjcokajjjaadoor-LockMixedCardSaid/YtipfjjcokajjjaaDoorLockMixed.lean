/-
  What is proved here: the statement LockMixed: as many as like share a thing; who wants it alone waits for all of them, and who comes behind it waits for it; for every input.
  No condition beyond the row's own (the table of the modes is as the program lays it).
-/
import Derived.Test.YtipfjjcokajjjaaDoorLkY
import Derived.Test.YtipfjjcokajjjaaDoorTie
import Derived.Test.YtipfjjcokajjjaaDoorCards
import Derived.LaidMore
import Derived.Lay
import Derived.SevenTiedAt
import Derived.Stop.Joined
namespace Go.Proofs.YtipfjjcokajjjaaDoor.lockMixed
open Go.ChangeShapes Go.WideShapes Go.ChangeAt Go.RowKit Go.Proofs.YtipfjjcokajjjaaDoor
set_option linter.unusedVariables false
set_option linter.unusedSimpArgs false

/-- The numbers from c on, i of them, in mode m. -/
def run (c m : Int) : Nat → HM
  | 0 => []
  | i + 1 => run c m i ++ [(c + i, m)]
theorem run_mem {c m : Int} {i : Nat} {y : Int × Int} : y ∈ run c m i ↔ ∃ k : Nat, k < i ∧ y = (c + k, m) := by
  induction i with
  | zero => simp [run]
  | succ i ih =>
    unfold run
    rw [List.mem_append, ih, List.mem_singleton]
    constructor
    · rintro (⟨k, hk, e⟩ | rfl)
      · exact ⟨k, by omega, e⟩
      · exact ⟨i, by omega, rfl⟩
    · rintro ⟨k, hk, rfl⟩
      by_cases e : k = i
      · subst e; exact .inr rfl
      · exact .inl ⟨k, by omega, rfl⟩
theorem run_len (c m : Int) (i : Nat) : (run c m i).length = i := by
  induction i with
  | zero => rfl
  | succ i ih => unfold run; rw [List.length_append, ih]; rfl
theorem run_no {c m h : Int} {i : Nat} (hh : h < c ∨ c + i ≤ h) : ∀ y ∈ run c m i, y.1 ≠ h := by
  intro y hy
  obtain ⟨k, hk, rfl⟩ := run_mem.1 hy
  simp only
  omega
theorem run_cons (c m : Int) (i : Nat) : run c m (i + 1) = (c, m) :: run (c + 1) m i := by
  induction i with
  | zero => simp [run]
  | succ i ih =>
    rw [run, ih, run, List.cons_append]
    congr 2
    simp only [List.cons.injEq, Prod.mk.injEq, and_true]
    omega
theorem run_out (c m : Int) (i : Nat) : outL (run c m (i + 1)) c = run (c + 1) m i := by
  rw [run_cons]
  unfold outL
  rw [List.filter_cons_of_neg (by simp)]
  exact out_self (run_no (by omega))
theorem run_modes {c m : Int} {i : Nat} (h1 : 1 ≤ c) (h2 : c + i ≤ 1001) (hm : m = 1 ∨ m = 2) : Modes (run c m i) := by
  induction i with
  | zero => exact modes_nil
  | succ i ih =>
    have h3 := ih (by omega)
    unfold run
    have := h3.put (h := c + i) (want := m) (by omega) hm
    unfold putL at this
    rwa [out_self (run_no (by omega))] at this

/-- The table with the one thing. -/
def one (has q : HM) : Tab := [⟨nmA, has, q⟩]
theorem one_take {has q : HM} {h want : Int} (hh : 1 ≤ h ∧ h ≤ 1000) (hw : want = 1 ∨ want = 2) (hm : modeL has h < want) (hq : modeL q h ≤ 0) :
    takeM (one has q) h nmA want = (if gets ⟨nmA, has, q⟩ h want then 0 else 120, [takeT ⟨nmA, has, q⟩ h want]) := by
  have hg : getT (one has q) nmA = some ⟨nmA, has, q⟩ := by simp [getT, one]
  have hl : lo (one has q) nmA = [] := by unfold lo one; rw [List.filter_cons_of_neg (by simp only [decide_eq_true_eq]; exact ltB_irrefl _)]; rfl
  have hi : hi (one has q) nmA = [] := by unfold hi one; rw [List.filter_cons_of_neg (by simp only [decide_eq_true_eq]; exact ltB_irrefl _)]; rfl
  have hwt : waitsM (one has q) h = none := by unfold waitsM one; simp; exact hq
  have hs : nmA.size = 1 := rfl
  unfold takeM
  rw [if_neg (by rw [hs]; omega), hwt, if_neg (by simp), if_neg (by unfold modeM; rw [hg]; simp only; omega), if_neg (by rw [hg]; simp), hg, hl, hi]
  rfl
theorem none_take {h want : Int} (hh : 1 ≤ h ∧ h ≤ 1000) (hw : want = 1 ∨ want = 2) : takeM [] h nmA want = (0, one [(h, want)] []) := by
  have hs : nmA.size = 1 := rfl
  unfold takeM
  rw [if_neg (by rw [hs]; omega)]
  have h1 : waitsM [] h = none := rfl
  have h2 : modeM [] h nmA = 0 := rfl
  rw [h1, h2, if_neg (by simp), if_neg (by omega), if_neg (by simp)]
  have h3 : gets ((getT [] nmA).getD ⟨nmA, [], []⟩) h want = true := rfl
  rw [if_pos h3]
  unfold takeT
  rw [if_pos h3]
  rfl
theorem one_rel (has q : HM) (h : Int) (hx : mineB ⟨nmA, has, q⟩ h = true) : relM (one has q) h = ((grant (outL has h) (outL q h)).1, (one (grant (outL has h) (outL q h)).2.1 (grant (outL has h) (outL q h)).2.2).filter fullT) := by
  unfold relM one
  simp [relT, hx]

def shares (i : Nat) : Tab := if i = 0 then [] else one (run 1 1 i) []
def queued (a j : Nat) : HM := (100, 2) :: run 101 1 j

theorem m1 {i : Nat} (hi : i < 20) : takeM (shares i) ((i : Int) + 1) nmA 1 = (0, shares (i + 1)) := by
  cases i with
  | zero => exact none_take (by omega) (.inl rfl)
  | succ i =>
    have e1 : shares (i + 1) = one (run 1 1 (i + 1)) [] := rfl
    have e2 : shares (i + 1 + 1) = one (run 1 1 (i + 1 + 1)) [] := rfl
    have hn : ∀ y ∈ run 1 1 (i + 1), y.1 ≠ ((i + 1 : Nat) : Int) + 1 := run_no (by right; omega)
    have hm0 := modeL_not hn
    rw [e1, e2, one_take (h := ((i + 1 : Nat) : Int) + 1) (by omega) (.inl rfl) (by rw [hm0]; decide) (show modeL [] _ ≤ 0 from Int.le_refl 0)]
    have hg : gets ⟨nmA, run 1 1 (i + 1), []⟩ (((i + 1 : Nat) : Int) + 1) 1 = true := by
      unfold gets
      rw [Bool.and_eq_true]
      refine ⟨free_iff.2 fun x hx _ => ?_, by simp⟩
      obtain ⟨k, _, rfl⟩ := run_mem.1 hx
      simp
    rw [if_pos hg]
    unfold takeT
    rw [if_pos hg]
    simp only [Prod.mk.injEq, true_and]
    show [(⟨nmA, putL _ _ _, []⟩ : Th)] = _
    unfold putL
    rw [out_self hn]
    have e3 : run 1 1 (i + 1 + 1) = run 1 1 (i + 1) ++ [(1 + ((i + 1 : Nat) : Int), 1)] := rfl
    rw [e3, Int.add_comm 1]
    rfl
theorem m2 {a : Nat} (h1 : 1 ≤ a) (h2 : a ≤ 20) : takeM (shares a) 100 nmA 2 = (120, one (run 1 1 a) (queued a 0)) := by
  have e1 : shares a = one (run 1 1 a) [] := by unfold shares; rw [if_neg (by omega)]
  have hn : ∀ y ∈ run 1 1 a, y.1 ≠ 100 := run_no (by right; omega)
  have hm0 := modeL_not hn
  rw [e1, one_take (by omega) (.inr rfl) (by rw [hm0]; decide) (by decide)]
  have hg : gets ⟨nmA, run 1 1 a, []⟩ 100 2 = false := by
    unfold gets
    rw [Bool.and_eq_false_iff]
    left
    cases hf : freeL (run 1 1 a) 100 2 with
    | false => rfl
    | true => exact absurd rfl (free_iff.1 hf (1, 1) (run_mem.2 ⟨0, by omega, by simp⟩) (by simp)).2
  have ht : takeT ⟨nmA, run 1 1 a, []⟩ 100 2 = ⟨nmA, run 1 1 a, queued a 0⟩ := by
    unfold takeT atQ
    rw [if_neg (by rw [hg]; simp), if_neg (by simp only; omega)]
    rfl
  rw [hg, ht]
  rfl
theorem m3 {a j : Nat} (h1 : 1 ≤ a) (h2 : a ≤ 20) (hj : j < 20) : takeM (one (run 1 1 a) (queued a j)) (101 + (j : Int)) nmA 1 = (120, one (run 1 1 a) (queued a (j + 1))) := by
  have hn : ∀ y ∈ run 1 1 a, y.1 ≠ 101 + (j : Int) := run_no (by right; omega)
  have hm0 := modeL_not hn
  have hq : modeL (queued a j) (101 + (j : Int)) = 0 := modeL_not (by
    intro y hy
    rcases List.mem_cons.1 hy with rfl | q
    · simp only; omega
    · exact run_no (by right; omega) y q)
  rw [one_take (by omega) (.inl rfl) (by rw [hm0]; decide) (by omega)]
  have hg : gets ⟨nmA, run 1 1 a, queued a j⟩ (101 + (j : Int)) 1 = false := by
    unfold gets
    rw [hm0]
    simp [queued]
  have ht : takeT ⟨nmA, run 1 1 a, queued a j⟩ (101 + (j : Int)) 1 = ⟨nmA, run 1 1 a, queued a (j + 1)⟩ := by
    unfold takeT atQ
    rw [if_neg (by rw [hg]; simp), if_neg (by simp only; omega)]
    show (⟨nmA, run 1 1 a, insL (queued a j) (queued a j).length (101 + (j : Int), 1)⟩ : Th) = _
    unfold insL
    rw [List.take_length, List.drop_length]
    rfl
  rw [hg, ht]
  rfl
theorem good_shares {i : Nat} (hi : i ≤ 20) : Good (shares i) := by
  induction i with
  | zero => exact good_nil
  | succ i ih =>
    have h := takeM_good (ih (by omega)) ((i : Int) + 1) nmA 1
    rwa [m1 (by omega)] at h
theorem good_queued {a j : Nat} (h1 : 1 ≤ a) (h2 : a ≤ 20) (hj : j ≤ 20) : Good (one (run 1 1 a) (queued a j)) := by
  induction j with
  | zero =>
    have h := takeM_good (good_shares h2) 100 nmA 2
    rwa [m2 h1 h2] at h
  | succ j ih =>
    have h := takeM_good (ih (by omega)) (101 + (j : Int)) nmA 1
    rwa [m3 h1 h2 (by omega)] at h
/-- For whom the first waits: for all. -/
theorem m4 {a : Nat} (h1 : 1 ≤ a) (h2 : a ≤ 20) {xs : List Int} (hx : Rising xs) (hm : ∀ o, o ∈ xs ↔ IsFor (one (run 1 1 a) (queued a 0)) 100 o) : xs.length = a := by
  have e : xs = (run 1 1 a).map Prod.fst := by
    refine Rising.ext hx ?_ fun o => ?_
    · have : ∀ (c : Int) (i : Nat), Rising ((run c 1 i).map Prod.fst) := by
        intro c i
        induction i generalizing c with
        | zero => exact .nil
        | succ i ih =>
          rw [run_cons, List.map_cons]
          refine List.pairwise_cons.2 ⟨fun y hy => ?_, ih _⟩
          obtain ⟨z, hz, rfl⟩ := List.mem_map.1 hy
          obtain ⟨k, _, rfl⟩ := run_mem.1 hz
          simp only
          omega
      exact this 1 a
    · rw [hm o, isFor_iff (good_queued h1 h2 (by omega)) (x := ⟨nmA, run 1 1 a, queued a 0⟩) (by simp [one]) (k := 0) (m := 2) rfl, List.mem_map]
      constructor
      · rintro (⟨y, hy, _⟩ | ⟨y, hy, e, _⟩)
        · simp at hy
        · exact ⟨y, hy, e⟩
      · rintro ⟨y, hy, rfl⟩
        refine .inr ⟨y, hy, rfl, ?_⟩
        have := run_no (c := 1) (m := 1) (i := a) (h := 100) (by right; omega) y hy
        simp [barsB, this]
  rw [e, List.length_map, run_len]
theorem m5 {a i : Nat} (h1 : 1 ≤ a) (h2 : a ≤ 20) (hi1 : 1 ≤ i) (hi : i ≤ 20) {xs : List Int} (hx : Rising xs) (hm : ∀ o, o ∈ xs ↔ IsFor (one (run 1 1 a) (queued a i)) (100 + (i : Int)) o) : xs.length = i := by
  have e : xs = (run 100 1 i).map Prod.fst := by
    refine Rising.ext hx ?_ fun o => ?_
    · have : ∀ (c : Int) (i : Nat), Rising ((run c 1 i).map Prod.fst) := by
        intro c i
        induction i generalizing c with
        | zero => exact .nil
        | succ i ih =>
          rw [run_cons, List.map_cons]
          refine List.pairwise_cons.2 ⟨fun y hy => ?_, ih _⟩
          obtain ⟨z, hz, rfl⟩ := List.mem_map.1 hy
          obtain ⟨k, _, rfl⟩ := run_mem.1 hz
          simp only
          omega
      exact this 100 i
    · obtain ⟨j, rfl⟩ : ∃ j, i = j + 1 := ⟨i - 1, by omega⟩
      have hk : (queued a (j + 1))[j + 1]? = some (100 + ((j + 1 : Nat) : Int), 1) := by
        unfold queued
        rw [List.getElem?_cons_succ]
        unfold run
        rw [List.getElem?_append_right (by rw [run_len]; exact Nat.le_refl _), run_len, Nat.sub_self]
        simp
        omega
      have htk : (queued a (j + 1)).take (j + 1) = queued a j := by
        unfold queued
        rw [List.take_succ_cons]
        congr 1
        show (run 101 1 j ++ [(101 + (j : Int), 1)]).take j = run 101 1 j
        rw [List.take_left' (run_len _ _ _)]
      rw [hm o, isFor_iff (good_queued h1 h2 hi) (x := ⟨nmA, run 1 1 a, queued a (j + 1)⟩) (by simp [one]) hk, List.mem_map]
      show (∃ y ∈ (queued a (j + 1)).take (j + 1), y.1 = o) ∨ _ ↔ _
      rw [htk]
      constructor
      · rintro (⟨y, hy, rfl⟩ | ⟨y, hy, e, hb⟩)
        · rcases List.mem_cons.1 hy with rfl | q
          · exact ⟨(100, 1), run_mem.2 ⟨0, by omega, by simp⟩, rfl⟩
          · obtain ⟨k, hk, rfl⟩ := run_mem.1 q
            exact ⟨(101 + (k : Int), 1), run_mem.2 ⟨k + 1, by omega, by simp; omega⟩, rfl⟩
        · obtain ⟨k, hk, rfl⟩ := run_mem.1 hy
          simp [barsB] at hb
      · rintro ⟨y, hy, rfl⟩
        obtain ⟨k, hk, rfl⟩ := run_mem.1 hy
        left
        cases k with
        | zero => exact ⟨(100, 2), by simp [queued], by simp⟩
        | succ k => exact ⟨(101 + (k : Int), 1), List.mem_cons_of_mem _ (run_mem.2 ⟨k, by omega, rfl⟩), by simp; omega⟩
  rw [e, List.length_map, run_len]
theorem m6 {c : Int} {i b : Nat} (hc : 1 ≤ c) (hi : 1 ≤ i) (h2 : c + i ≤ 21) : relM (one (run c 1 (i + 1)) (queued i b)) c = ([], one (run (c + 1) 1 i) (queued i b)) := by
  have hmine : mineB ⟨nmA, run c 1 (i + 1), queued i b⟩ c = true := by
    unfold mineB
    rw [Bool.or_eq_true]
    left
    rw [decide_eq_true_eq]
    exact (modeL_pos (run_modes hc (by omega) (.inl rfl))).2 ⟨(c, 1), run_mem.2 ⟨0, by omega, by simp⟩, rfl⟩
  rw [one_rel _ _ _ hmine, run_out]
  have hq : outL (queued i b) c = queued i b := out_self (by
    intro y hy
    rcases List.mem_cons.1 hy with rfl | q
    · simp only; omega
    · exact run_no (by left; omega) y q)
  rw [hq]
  have hf : freeL (run (c + 1) 1 i) 100 2 = false := by
    cases hf : freeL (run (c + 1) 1 i) 100 2 with
    | false => rfl
    | true => exact absurd rfl (free_iff.1 hf (c + 1, 1) (run_mem.2 ⟨0, by omega, by simp⟩) (by simp only; omega)).2
  have hg : grant (run (c + 1) 1 i) (queued i b) = ([], run (c + 1) 1 i, queued i b) := by
    unfold queued grant
    rw [if_neg (by rw [hf]; simp)]
  rw [hg]
  obtain ⟨j, rfl⟩ : ∃ j, i = j + 1 := ⟨i - 1, by omega⟩
  simp [one, fullT, run_cons]
theorem m7 {c : Int} {a b : Nat} (hc : 1 ≤ c) (h2 : c ≤ 20) : relM (one (run c 1 1) (queued a b)) c = ([100], one [(100, 2)] (run 101 1 b)) := by
  have hmine : mineB ⟨nmA, run c 1 1, queued a b⟩ c = true := by
    unfold mineB
    rw [Bool.or_eq_true]
    left
    simp [run, modeL]
  rw [one_rel _ _ _ hmine, run_out]
  have hq : outL (queued a b) c = queued a b := out_self (by
    intro y hy
    rcases List.mem_cons.1 hy with rfl | q
    · simp only; omega
    · exact run_no (by left; omega) y q)
  rw [hq]
  have hg2 : grant [(100, 2)] (run 101 1 b) = ([], [(100, 2)], run 101 1 b) := by
    cases b with
    | zero => rfl
    | succ b =>
      rw [run_cons]
      unfold grant
      rw [if_neg (by simp [freeL, barsB])]
  have hg : grant (run (c + 1) 1 0) (queued a b) = ([100], [(100, 2)], run 101 1 b) := by
    unfold queued grant
    rw [if_pos (by rfl)]
    have hp : putL (run (c + 1) 1 0) 100 2 = [(100, 2)] := rfl
    simp only [hp, hg2]
  rw [hg]
  simp [one, fullT]
theorem m8 (b : Nat) (hb : b ≤ 20) : (relM (one [(100, 2)] (run 101 1 b)) 100).1.length = b := by
  have hmine : mineB ⟨nmA, [(100, 2)], run 101 1 b⟩ 100 = true := by simp [mineB, modeL]
  rw [one_rel _ _ _ hmine]
  have hq : outL (run 101 1 b) 100 = run 101 1 b := out_self (run_no (by left; omega))
  have h0 : outL [((100 : Int), (2 : Int))] 100 = [] := rfl
  rw [hq, h0]
  have : ∀ (i : Nat) (c : Int) (has : HM), (∀ y ∈ has, y.2 = 1) → (grant has (run c 1 i)).1.length = i := by
    intro i
    induction i with
    | zero => intro c has _; rfl
    | succ i ih =>
      intro c has hh
      rw [run_cons]
      unfold grant
      have hf : freeL has c 1 = true := free_iff.2 fun x hx _ => by rw [hh x hx]; simp
      simp only [hf, if_true, List.length_cons]
      rw [ih]
      intro y hy
      rcases put_mem.1 hy with ⟨q, _⟩ | rfl
      · exact hh y q
      · rfl
  exact this b 101 [] (by simp)

set_option maxRecDepth 100000 in
set_option maxHeartbeats 4000000 in
theorem walk (n m : Int) (w : World) (hn : 0 ≤ n ∧ n ≤ 255) (hm : 0 ≤ m ∧ m ≤ 255) (htog : Tog w) :
    Calls Tryd.prog 9 #[.int .u8 n, .int .u8 m] w fun e w' => e = .returned (.bool true) ∧ Only [] w w' := by
  have HT := Lib.hid htog
  have HN := Lib.hid (Sep.nil w)
  obtain ⟨n', rfl⟩ : ∃ n' : Nat, n = n' := ⟨n.toNat, by omega⟩
  obtain ⟨m', rfl⟩ : ∃ m' : Nat, m = m' := ⟨m.toNat, by omega⟩
  clear htog
  go_enter Tryd.func9, Tryd.ntmps9
  go_upto_region 4 with (go_at_call 10; refine (new_any HN.out).mono ?_; rintro e w1 ⟨b, rfl, hs1⟩; have HS1 := Lib.hid hs1; clear hs1)
  go_cut [6, 7] (fun s6 s7 wx => ∃ A B : Nat, 1 ≤ A ∧ A ≤ 20 ∧ B ≤ 19 ∧ s6 = .int .i64 A ∧ s7 = .int .i64 B ∧ w1 = wx)
  case first =>
    go_wp2_with fail
    go_meet
    exact ⟨1 + n' % 20, m' % 20, by omega, by omega, by omega, by rw [show ((1 + n' % 20 : Nat) : Int) = 1 + (n' : Int) % 20 by omega], by rw [show ((m' % 20 : Nat) : Int) = (m' : Int) % 20 by omega], rfl⟩
  case rest =>
    obtain ⟨A, B, hA1, hA2, hB, rfl, rfl, rfl⟩ := hcut
    go_wp2_with fail
    go_loopg [8] A (fun gg s8 wr => ∃ i : Nat, i ≤ A ∧ A - i ≤ gg ∧ s8 = .int .i64 ((i : Int) + 1) ∧ Aside (Sep w wr [tabRes b (shares i)]))
    case atStart => exact ⟨0, Nat.zero_le _, by omega, rfl, HS1.out⟩
    case round =>
      obtain ⟨i, hi, hgg, rfl, HS⟩ := hrel
      clear HS1
      by_cases hlt : i < A
      · have hle : ((i : Int) + 1) ≤ (A : Int) := by omega
        have hc := take_any (good_shares (i := i) (by omega)) HT.out ((i : Int) + 1) nmA 1 (show Sep w wr [tabRes b (shares i)] from HS)
        rw [m1 (by omega)] at hc
        have HC := Lib.hid hc; clear hc
        go_wp2_with fail
        refine (show Calls Tryd.prog _ #[_, _, .string ⟨#[97]⟩, _] _ _ from HC.out).mono ?_
        rintro e w2 ⟨rfl, hs2⟩
        have HS2 := Lib.hid hs2; clear hs2
        go_wp2_with fail
        go_roundg (A - (i + 1))
        case measure => omega
        case rel => exact ⟨i + 1, by omega, by omega, by go_num, HS2.out⟩
      · have hiA : i = A := by omega
        subst hiA
        have hle : ¬ ((i : Int) + 1) ≤ (i : Int) := by omega
        obtain ⟨wi, rfl⟩ : ∃ wi, wi = wr := ⟨_, rfl⟩
        have hc := take_any (good_shares (i := i) hA2) HT.out 100 nmA 2 (show Sep w wi [tabRes b (shares i)] from HS)
        rw [m2 hA1 hA2] at hc
        have HC := Lib.hid hc; clear hc
        go_wp2_with fail
        refine (show Calls Tryd.prog _ #[_, _, .string ⟨#[97]⟩, _] _ _ from HC.out).mono ?_
        rintro e w2 ⟨rfl, hs2⟩
        have hf := for_any (good_queued hA1 hA2 (j := 0) (by omega)) HT.out 100 hs2
        have HFF := Lib.hid hf
        clear hs2 hf
        go_wp2_with fail
        refine HFF.out.mono ?_
        rintro e w3 ⟨xs, p3, q3, rfl, hr3, hm3, hs3⟩
        have hx3 := m4 hA1 hA2 hr3 hm3
        rw [hx3] at hs3 ⊢
        have HS3 := Lib.hid hs3.tail
        clear hs3 hr3 hm3 hx3
        go_wp2_with fail
        go_loopg [9] B (fun gg s9 wr => ∃ j : Nat, j ≤ B ∧ B - j ≤ gg ∧ s9 = .int .i64 ((j : Int) + 1) ∧ Aside (Sep w wr [tabRes b (one (run 1 1 i) (queued i j))]))
        case atStart => exact ⟨0, Nat.zero_le _, by omega, rfl, HS3.out⟩
        case round =>
          obtain ⟨j, hj, hgg2, rfl, HS⟩ := hrel
          clear HS3 HFF HC
          by_cases hlt2 : j < B
          · have hle2 : ((j : Int) + 1) ≤ (B : Int) := by omega
            have hc := take_any (good_queued hA1 hA2 (j := j) (by omega)) HT.out (101 + (j : Int)) nmA 1 (show Sep w wr [tabRes b (one (run 1 1 i) (queued i j))] from HS)
            rw [m3 hA1 hA2 (by omega), show (101 : Int) + (j : Int) = 100 + ((j : Int) + 1) by omega] at hc
            have HC := Lib.hid hc; clear hc
            have hwz : IntKind.i64.wrap (100 + ((j : Int) + 1)) = 100 + ((j : Int) + 1) := IntWalk.i64_in _ (by omega)
            go_wp2_with fail
            refine (show Calls Tryd.prog _ #[_, _, .string ⟨#[97]⟩, _] _ _ from HC.out).mono ?_
            rintro e w2 ⟨rfl, hs2⟩
            have hf := for_any (good_queued hA1 hA2 (j := j + 1) (by omega)) HT.out (100 + ((j + 1 : Nat) : Int)) hs2
            rw [show (100 : Int) + ((j + 1 : Nat) : Int) = 100 + ((j : Int) + 1) by omega] at hf
            have HFF := Lib.hid hf
            clear hs2 hf
            go_wp2_with fail
            refine HFF.out.mono ?_
            rintro e w3 ⟨xs, p3, q3, rfl, hr3, hm3, hs3⟩
            have hx3 := m5 hA1 hA2 (i := j + 1) (by omega) (by omega) hr3 (by rw [show (100 : Int) + ((j + 1 : Nat) : Int) = 100 + ((j : Int) + 1) by omega]; exact hm3)
            rw [hx3] at hs3 ⊢
            have HS3 := Lib.hid hs3.tail
            clear hs3 hr3 hm3 hx3
            go_wp2_with fail
            go_roundg (B - (j + 1))
            case measure => omega
            case rel => exact ⟨j + 1, by omega, by omega, by go_num, HS3.out⟩
          · have hjB : j = B := by omega
            subst hjB
            have hle2 : ¬ ((j : Int) + 1) ≤ (j : Int) := by omega
            obtain ⟨wj, rfl⟩ : ∃ wj, wj = wr := ⟨_, rfl⟩
            have HG0 := Lib.hid (good_queued hA1 hA2 (j := j) (by omega))
            go_wp2_with fail
            go_loopg [10] i (fun gg s10 wr => ∃ k : Nat, k + 1 ≤ i ∧ i - k ≤ gg ∧ s10 = .int .i64 ((k : Int) + 1) ∧ Aside (Good (one (run ((k : Int) + 1) 1 (i - k)) (queued i j))) ∧ Aside (Sep w wr [tabRes b (one (run ((k : Int) + 1) 1 (i - k)) (queued i j))]))
            case atStart => exact ⟨0, by omega, by omega, rfl, HG0.out, HS⟩
            case round =>
              obtain ⟨k, hk, hgg3, rfl, HG, HS⟩ := hrel
              clear HG0
              by_cases hlt3 : k + 1 < i
              · have hlz : ((k : Int) + 1) < (i : Int) := by omega
                have hc := release_any (show Good _ from HG) HT.out ((k : Int) + 1) (show Sep w wr [tabRes b _] from HS)
                have hg2 := relM_good (show Good _ from HG) ((k : Int) + 1)
                have hr := m6 (c := (k : Int) + 1) (i := i - (k + 1)) (b := j) (by omega) (by omega) (by omega)
                rw [show i - (k + 1) + 1 = i - k by omega] at hr
                have hr2 : relM (one (run ((k : Int) + 1) 1 (i - k)) (queued i j)) ((k : Int) + 1) = ([], one (run (((k + 1 : Nat) : Int) + 1) 1 (i - (k + 1))) (queued i j)) := by
                  rw [show ((k + 1 : Nat) : Int) + 1 = (k : Int) + 1 + 1 by omega]; exact hr
                rw [hr2] at hc hg2
                have HC := Lib.hid hc
                have HG2 := Lib.hid hg2
                clear hc hg2 hr hr2
                go_wp2_with fail
                refine HC.out.mono ?_
                rintro e w2 ⟨p2, q2, rfl, hs2⟩
                have HS2 := Lib.hid hs2.tail
                clear hs2
                go_wp2_with fail
                go_roundg (i - (k + 1))
                case measure => omega
                case rel => exact ⟨k + 1, by omega, by omega, by go_num, HG2.out, HS2.out⟩
              · have hki : i = k + 1 := by omega
                subst hki
                have hlz : ¬ ((k : Int) + 1) < ((k + 1 : Nat) : Int) := by omega
                have hc := release_any (show Good _ from HG) HT.out ((k + 1 : Nat) : Int) (show Sep w wr [tabRes b _] from HS)
                have hg2 := relM_good (show Good _ from HG) ((k + 1 : Nat) : Int)
                have hr := m7 (c := (k : Int) + 1) (a := k + 1) (b := j) (by omega) (by omega)
                rw [show k + 1 - k = 1 by omega, show ((k + 1 : Nat) : Int) = (k : Int) + 1 by omega, hr] at hc hg2
                rw [show (k : Int) + 1 = ((k + 1 : Nat) : Int) by omega] at hc
                have HC := Lib.hid hc
                have HG2 := Lib.hid hg2
                clear hc hg2 hr
                go_wp2_with fail
                refine HC.out.mono ?_
                rintro e w2 ⟨p2, q2, rfl, hs2⟩
                obtain ⟨g2, rfl⟩ := hs2.rowAt (by simp [intCells])
                have r2 := (hs2.rowCell (j := 0) (u := .int .i64 100) rfl).1
                have hc := release_any HG2.out HT.out 100 hs2.up1
                have hx := m8 j (by omega)
                rw [hx] at hc
                have HC2 := Lib.hid hc
                clear hs2 hc hx
                go_wp2_with fail
                refine HC2.out.mono ?_
                rintro e w3 ⟨p3, q3, rfl, hs3⟩
                have HO3 := Lib.hid hs3.old
                clear hs3
                go_wp2_with fail
                refine (wakes_any w3 (HT.out.only HO3.out)).mono ?_
                rintro e w4 ⟨rfl, ho4⟩
                have HO4 := Lib.hid (HO3.out.trans ho4 (Within.nil _ _))
                clear ho4
                go_wp2_with fail
                go_ret
                exact ⟨rfl, HO4.out⟩

set_option maxRecDepth 100000 in
theorem lifted (os : Os) (started : os.Started) (H : Type) (enc : TypeId × Value → H) :
    ReturnsInHanded {} Tryd.checked os 9 .any (fun w args => (Rows.lockMixedSpec.pre enc Tryd.prog Tryd.f9 Rows.lockMixedRow.domain false w args ∧ laidMetH Tryd.prog Rows.lockMixedRow.laid w) ∧ sizedMet enc Tryd.prog Tryd.f9 (OpenSpec.ofChange Rows.lockMixedSpec) false w args)
      (Rows.lockMixedSpec.post enc Tryd.prog Tryd.f9 false true false false) := by
  refine returnsInHanded_of_change_and (C := Tryd.checked) (X := fun w _ => laidMetH Tryd.prog Rows.lockMixedRow.laid w) (fun _ _ _ hh h => h.of_heap hh) own started (by kernel_rfl) Tryd.func9
    (ChangeSpec.witness_shaped (enc := enc) (C := Tryd.checked) (os := os) (X := fun w _ => laidMetH Tryd.prog Rows.lockMixedRow.laid w) false (World.laidAll Tryd.prog os Rows.lockMixedRow.laid) #[.int .u8 0, .int .u8 0] 8 (World.laidAll_os _ _ _)
      (World.shaped_of_ZipB (by kernel_rfl) (by kernel_rfl)) (by kernel_rfl) (by kernel_rfl) (by kernel_rfl)
      (by rw [MakeChecks.laidMetH_plain _ _ _ (by kernel_rfl)]; exact laidMet_laidAll _ (by kernel_rfl) (by kernel_rfl))) ?_
  intro W base args ds gs before hval0 hW _ _ hL _
  have htog : Tog W := tog_of_laid hL
  have hval : ∀ (j : Nat) t v, Tryd.f9.params[j]? = some t → args[j]? = some v → Value.okWide Tryd.prog W .any base t v := hval0
  have hW' := hW
  obtain ⟨pp, pq, hA0, hV, rfl, hfz, hnd⟩ := hW
  have hA : DataW.TrodAll enc Tryd.prog W 0 (fun _ => true) true Tryd.f9.params.toList args.toList ds pp := hA0
  rw [Tryd.params9] at hA hval
  obtain ⟨v0, vs0, d0, ds0, p0, q0, hargs, rfl, rfl, h0, r0⟩ := trodAll_cons hA
  obtain ⟨v1, vs1, d1, ds1, p1, q1, rfl, rfl, rfl, h1, r1⟩ := trodAll_cons r0
  obtain ⟨rfl, rfl, rfl⟩ := trodAll_nil r1
  obtain rfl : args = #[v0, v1] := by cases args; simp_all
  obtain ⟨rfl, rfl⟩ := trodVars_none hV
  obtain ⟨a0, rfl, rfl, rfl, w0⟩ := open_int Tryd.underlying5 (hval 0 5 v0 rfl rfl) h0
  obtain ⟨a1, rfl, rfl, rfl, w1⟩ := open_int Tryd.underlying5 (hval 1 5 v1 rfl rfl) h1
  clear hA0 hval0
  simp only [List.append_nil] at hW'
  refine (walk a0 a1 W (bounds_u8 w0) (bounds_u8 w1) htog).mono fun e W' ⟨he, hg⟩ => ?_
  subst he
  have hb : Below W.heap.size W W' := hg.below (Nat.le_refl _) (by simp)
  exact ⟨_, rfl, _, _, _, [], _, [], hW', trodAll_cons_mk (shut_bool Tryd.underlying4 _) trodAll_mk0, (trodAll_cons_mk (shut_int Tryd.underlying5 w0) (trodAll_cons_mk (shut_int Tryd.underlying5 w1) trodAll_mk0)), rfl, hb.frame _, fun h => by cases h⟩

theorem over : Rows.LockMixedSaid :=
  OpenClaim.holds_of_wide 9 Tryd.f9 rfl rfl rfl rfl rfl rfl rfl ⟨rfl, rfl, rfl, rfl, rfl⟩ rfl rfl rfl rfl rfl (by kernel_rfl) Tryd.func9 (by kernel_rfl)
    (of_decide_eq_true (by kernel_rfl)) (by unfold Func.isWrapper; first | (rw [if_pos (by decide +kernel)]; kernel_rfl) | (rw [if_neg (by decide +kernel)]; exact ⟨rfl, rfl⟩))
    (fun os started H enc _ => lifted os started H enc)

theorem proved : Rows.LockMixedCardSaid :=
  Claim7.holds_tied_plain_at .later [] [.data] true Rows.lockMixedCard.stood.harness false over (fun _ h => by cases h) (by kernel_rfl) (fun _ h => by cases h) lockMixed_row_tie rfl ⟨rfl, rfl⟩ (by kernel_rfl) rfl
    (fun f fn hf hfn => by
      obtain rfl : f = 9 := Option.some.inj ((show Tryd.prog.funcNamed "hedgerow/hedgerowlaw12.LockMixed" = some 9 by kernel_rfl).symm.trans hf) |>.symm
      obtain rfl : fn = Tryd.f9 := (Option.some.inj (Tryd.func9.symm.trans hfn)).symm
      exact ⟨by kernel_rfl, fun j t ht => by
        rw [Tryd.params9] at ht
        have hm : t ∈ [5] := by simpa using Array.mem_of_getElem? ht
        have hall : ([5].all fun u => !Tryd.prog.wantsStandIn u) = true := by kernel_rfl
        exact (show Tryd.prog.wantsStandIn t = false by simpa using List.all_eq_true.1 hall t hm)⟩)
    (by kernel_rfl)
#print axioms proved
end Go.Proofs.YtipfjjcokajjjaaDoor.lockMixed
