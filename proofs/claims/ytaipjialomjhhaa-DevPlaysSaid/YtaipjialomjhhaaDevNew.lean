/-
  What is proved here: 'dev.New' makes the device of zeros that 'DevS.new' says, in new memory; or tells ErrArg.
  No condition.
-/
import Derived.Test.YtaipjialomjhhaaDevSmall
import Derived.Test.YtaipjialomjhhaaShelf
import Derived.Deep.DeepCutAuto
namespace Go.Proofs.Ytaipjialomjhhaa
open Go.RowKit

theorem Try.infoString : (Try.prog.info? 9).map (fun i => (i.zero, i.size, i.bytes)) = some (some (.string ⟨#[]⟩), 1, 16) := by kernel_rfl
theorem Try.undStrings : Try.prog.underlying 56 = some (.slice 9) := by kernel_rfl

theorem repeat_eq : ∀ (n : Nat) (x : UInt8), Lib.repeatL [x] n = List.replicate n x := by
  intro n x
  induction n with
  | zero => rfl
  | succ n ih => simp [Lib.repeatL, List.replicate_succ, ih]

theorem zero_eq : (⟨(Lib.repeatL [(0 : UInt8)] 512).toArray⟩ : ByteArray) = DevS.zero := by
  rw [repeat_eq]; rfl

set_option maxRecDepth 100000 in
theorem new_arg (n : Int) (w : World) (h : n < 1 ∨ 8192 < n) :
    Calls Try.prog 8 #[.int .i64 n] w fun e w' => e = .returned (.tuple #[.pointer none, .int .i64 1]) ∧ w = w' := by
  by_cases h1 : n < 1
  · go_enter Try.func8, Try.ntmps8
    go_wp2
    go_ret2
    exact ⟨rfl, rfl⟩
  · have h2 : 8192 < n := by omega
    go_enter Try.func8, Try.ntmps8
    go_wp2
    go_ret2
    exact ⟨rfl, rfl⟩

/-- What the first statement leaves: two rows of n texts, and the device over them. -/
def NewAt (n : Nat) (w : World) (s4 : Value) (wx : World) : Prop :=
  ∃ b bn bs, s4 = .pointer (some ⟨b, 0, none⟩) ∧ Only [] w wx ∧ w.heap.size ≤ b ∧ w.heap.size ≤ bn ∧ w.heap.size ≤ bs ∧ b ≠ bn ∧ b ≠ bs ∧ bn ≠ bs ∧
    wx.heap[b]? = some (.cells (devCells bn bs n (.slice none 0 0) false 0 0 0) 64 (0, 0)) ∧
    wx.heap[bn]? = some (.cells (Array.replicate n (.string ⟨#[]⟩)) 9 (0, 0)) ∧ wx.heap[bs]? = some (.cells (Array.replicate n (.string ⟨#[]⟩)) 9 (0, 0))

theorem newAt_of (n : Nat) (w : World) (bn bs : Nat) (h : bn = w.heap.size ∧ bs = w.heap.size + 1 ∨ bn = w.heap.size + 1 ∧ bs = w.heap.size) :
    NewAt n w (.pointer (some ⟨w.heap.size + 1 + 1, 0, none⟩)) (((w.alloc (.cells (Array.replicate n (.string ⟨#[]⟩)) 9)).alloc (.cells (Array.replicate n (.string ⟨#[]⟩)) 9)).alloc (.cells (devCells bn bs n (.slice none 0 0) false 0 0 0) 64)).drew := by
  have e0 : (((w.alloc (.cells (Array.replicate n (.string ⟨#[]⟩)) 9)).alloc (.cells (Array.replicate n (.string ⟨#[]⟩)) 9)).alloc (.cells (devCells bn bs n (.slice none 0 0) false 0 0 0) 64)).heap[w.heap.size]? = some (.cells (Array.replicate n (.string ⟨#[]⟩)) 9 (0, 0)) := by
    rw [heap_alloc_lt (by simp; omega), heap_alloc_lt (by simp)]
    exact heap_alloc_self (w := w)
  have e1 : (((w.alloc (.cells (Array.replicate n (.string ⟨#[]⟩)) 9)).alloc (.cells (Array.replicate n (.string ⟨#[]⟩)) 9)).alloc (.cells (devCells bn bs n (.slice none 0 0) false 0 0 0) 64)).heap[w.heap.size + 1]? = some (.cells (Array.replicate n (.string ⟨#[]⟩)) 9 (0, 0)) := by
    rw [heap_alloc_lt (by simp)]
    have := heap_alloc_self (w := w.alloc (.cells (Array.replicate n (.string ⟨#[]⟩)) 9)) (o := .cells (Array.replicate n (.string ⟨#[]⟩)) 9)
    simpa using this
  have e2 : (((w.alloc (.cells (Array.replicate n (.string ⟨#[]⟩)) 9)).alloc (.cells (Array.replicate n (.string ⟨#[]⟩)) 9)).alloc (.cells (devCells bn bs n (.slice none 0 0) false 0 0 0) 64)).heap[w.heap.size + 1 + 1]? = some (.cells (devCells bn bs n (.slice none 0 0) false 0 0 0) 64 (0, 0)) := by
    have := heap_alloc_self (w := (w.alloc (.cells (Array.replicate n (.string ⟨#[]⟩)) 9)).alloc (.cells (Array.replicate n (.string ⟨#[]⟩)) 9)) (o := .cells (devCells bn bs n (.slice none 0 0) false 0 0 0) 64)
    simpa using this
  have ho : Only [] w (((w.alloc (.cells (Array.replicate n (.string ⟨#[]⟩)) 9)).alloc (.cells (Array.replicate n (.string ⟨#[]⟩)) 9)).alloc (.cells (devCells bn bs n (.slice none 0 0) false 0 0 0) 64)).drew :=
    (((Only.alloc [] w _).trans (Only.alloc [] _ _) (Within.refl _ _)).trans (Only.alloc [] _ _) (Within.refl _ _)).trans (Only.drew [] _) (Within.refl _ _)
  refine ⟨w.heap.size + 1 + 1, bn, bs, rfl, ho, by omega, by omega, by omega, by omega, by omega, by omega, e2, ?_, ?_⟩
  · rcases h with ⟨rfl, rfl⟩ | ⟨rfl, rfl⟩
    · exact e0
    · exact e1
  · rcases h with ⟨rfl, rfl⟩ | ⟨rfl, rfl⟩
    · exact e1
    · exact e0

/-- How memory stands in the loop of New, after k rounds. -/
def FillAt (n b bn bs : Nat) (w : World) (k : Nat) (wr : World) : Prop :=
  Only [] w wr ∧ wr.heap[b]? = some (.cells (devCells bn bs n (.slice none 0 0) false 0 0 0) 64 (0, 0)) ∧
    wr.heap[bn]? = some (.cells (((List.replicate k DevS.zero ++ List.replicate (n - k) ByteArray.empty).map Value.string).toArray) 9 (0, 0)) ∧
    wr.heap[bs]? = some (.cells (((List.replicate k DevS.zero ++ List.replicate (n - k) ByteArray.empty).map Value.string).toArray) 9 (0, 0))

theorem fill_zero (n : Nat) : Array.replicate n (Value.string ⟨#[]⟩) = (((List.replicate 0 DevS.zero ++ List.replicate (n - 0) ByteArray.empty).map Value.string).toArray) := by
  simp only [List.replicate_zero, List.nil_append, Nat.sub_zero, List.map_replicate, List.toArray_replicate]
  rfl

theorem fill_set (n k : Nat) (hk : k < n) : (((List.replicate k DevS.zero ++ List.replicate (n - k) ByteArray.empty).map Value.string).toArray).setIfInBounds k (.string DevS.zero) = (((List.replicate (k + 1) DevS.zero ++ List.replicate (n - (k + 1)) ByteArray.empty).map Value.string).toArray) := by
  obtain ⟨m, hm⟩ : ∃ m, n - k = m + 1 := ⟨n - k - 1, by omega⟩
  rw [hm, show n - (k + 1) = m from by omega, List.replicate_succ (n := m)]
  simp only [List.setIfInBounds_toArray, List.map_append, List.map_replicate, List.map_cons]
  rw [List.set_append]
  simp [List.replicate_succ', List.append_assoc]

theorem fill_next {n b bn bs : Nat} {w W : World} {k : Nat} (hk : k < n) (h1 : b ≠ bn) (h2 : b ≠ bs) (h3 : bn ≠ bs) (hB : w.heap.size ≤ bn) (hC : w.heap.size ≤ bs) (h : FillAt n b bn bs w k W) (x y : Nat) (hxy : x = bn ∧ y = bs ∨ x = bs ∧ y = bn) :
    FillAt n b bn bs w (k + 1) ((W.drew.setCell ⟨x, k, none⟩ (.string DevS.zero)).setCell ⟨y, k, none⟩ (.string DevS.zero)) := by
  obtain ⟨ho, hb, hn, hs⟩ := h
  have hx : x ≠ b ∧ y ≠ b ∧ x ≠ y ∧ w.heap.size ≤ x ∧ w.heap.size ≤ y := by rcases hxy with ⟨rfl, rfl⟩ | ⟨rfl, rfl⟩ <;> refine ⟨?_, ?_, ?_, ?_, ?_⟩ <;> omega
  refine ⟨?_, ?_, ?_, ?_⟩
  · have q := ((Only.drew [x, y] W).trans (G := [x]) (Only.cellAt W.drew x k (.string DevS.zero)) (by intro z hz; left; simp at hz; simp [hz])).trans (G := [y]) (Only.cellAt _ y k (.string DevS.zero)) (by intro z hz; left; simp at hz; simp [hz])
    exact ho.trans q (by intro z hz; right; simp at hz; omega)
  · rw [heap_setCell_ne (by exact hx.2.1.symm), heap_setCell_ne (by exact hx.1.symm)]; exact hb
  · rcases hxy with ⟨rfl, rfl⟩ | ⟨rfl, rfl⟩
    · rw [heap_setCell_ne (by exact h3), heap_setCell_self (w := W.drew) hn, fill_set n k hk]
    · rw [← fill_set n k hk]
      refine heap_setCell_self ?_
      rw [heap_setCell_ne (by exact h3)]; exact hn
  · rcases hxy with ⟨rfl, rfl⟩ | ⟨rfl, rfl⟩
    · rw [← fill_set n k hk]
      refine heap_setCell_self ?_
      rw [heap_setCell_ne (by exact h3.symm)]; exact hs
    · rw [heap_setCell_ne (by exact h3.symm), heap_setCell_self (w := W.drew) hs, fill_set n k hk]

theorem zero_size : DevS.zero.size = 512 := by unfold DevS.zero; show (List.replicate 512 (0 : UInt8)).toArray.size = 512; rw [List.size_toArray, List.length_replicate]

/-- What New leaves. -/
def Made (n : Nat) (w : World) (e : Ending) (w' : World) : Prop :=
  ∃ b F, e = .returned (.tuple #[.pointer (some ⟨b, 0, none⟩), .int .i64 0]) ∧ IsDev w' b F (DevS.new n) ∧ Only [] w w' ∧ Within w [] F

theorem made_of {n b bn bs : Nat} {w W : World} (h2 : n ≤ 8192) (n1 : b ≠ bn) (n2 : b ≠ bs) (n3 : bn ≠ bs) (b1 : w.heap.size ≤ b) (b2 : w.heap.size ≤ bn) (b3 : w.heap.size ≤ bs) (h : FillAt n b bn bs w n W) :
    Made n w (.returned (.tuple #[.pointer (some ⟨b, 0, none⟩), .int .i64 0])) W := by
  obtain ⟨ho, hb, hn, hs⟩ := h
  have hz : DevS.zero.size = 512 := by unfold DevS.zero; show (List.replicate 512 (0 : UInt8)).toArray.size = 512; rw [List.size_toArray, List.length_replicate]
  have hall : ∀ s ∈ (DevS.new n).now, s.size = 512 := by intro s hs; rw [List.eq_of_mem_replicate hs]; exact hz
  refine ⟨b, [b, bn, bs], rfl, ⟨bn, bs, .slice none 0 0, ⟨⟨rfl, by simpa [DevS.new] using h2, hall, hall, by simp [DevS.new], by simp [DevS.new], by simp [DevS.new], by simp [DevS.new], by simp [DevS.new], by simp [DevS.new], by simp [DevS.new]⟩, ?_, ?_, ?_, World.ownsRow_nil _ _ _ _, n1, n2, n3, fun k hk => by simp [Value.ownBlock] at hk⟩, rfl⟩, ho, ?_⟩
  · rw [hb]; simp [DevS.new]
  · rw [hn]; simp [DevS.new]
  · rw [hs]; simp [DevS.new]
  · intro k hk; right; simp at hk; omega

set_option maxRecDepth 100000 in
set_option maxHeartbeats 1000000 in
theorem new_walk (n : Nat) (w : World) (h1 : 1 ≤ n) (h2 : n ≤ 8192) :
    Calls Try.prog 8 #[.int .i64 n] w (Made n w) := by
  obtain ⟨is, IS⟩ := info_of Try.infoString
  have hmk := run_make_all (P := Try.prog) Try.undStrings IS.out rfl n (by omega) (by omega)
  go_enter Try.func8, Try.ntmps8
  go_wp2_with fail
  go_upto_region 3 with fail
  go_cut [4] (fun s4 wx => NewAt n w s4 wx)
  case first =>
    go_region
    · go_wp2_with fail
      go_meet
      exact newAt_of n w w.heap.size (w.heap.size + 1) (.inl ⟨rfl, rfl⟩)
    · go_wp2_with fail
      go_meet
      exact newAt_of n w (w.heap.size + 1) w.heap.size (.inr ⟨rfl, rfl⟩)
  case rest =>
    obtain ⟨b, bn, bs, rfl, ho, b1, b2, b3, n1, n2, n3, hb, hn, hs⟩ := hcut
    have hF : FillAt n b bn bs w 0 wc := ⟨ho, hb, fill_zero n ▸ hn, fill_zero n ▸ hs⟩
    have HF := Lib.hid hF; clear hF
    clear hmk ho hb hn hs
    go_wp2_with fail
    refine (Try.strings_Repeat ⟨#[0]⟩ 512 _ (by omega) (by decide)).mono ?_
    rintro e w1 ⟨he, hbe⟩
    rw [show (⟨(Lib.repeatL (⟨#[0]⟩ : ByteArray).data.toList 512).toArray⟩ : ByteArray) = DevS.zero from zero_eq] at he
    subst he
    have hz2 : DevS.zero.size ≤ 512 := by rw [zero_size]; exact Nat.le_refl _
    have hF1 : FillAt n b bn bs w 0 w1 := by
      obtain ⟨ho, hb, hn, hs⟩ := HF.out
      have q := Only.of_below hbe
      exact ⟨ho.trans q (Within.refl _ _), q.keeps hb (by simp), q.keeps hn (by simp), q.keeps hs (by simp)⟩
    have h0 : w1.cell? ⟨b, 0, none⟩ = some (.slice (some ⟨bn, 0, none⟩) n n) := cell_of_block hF1.2.1 0 rfl
    have HF1 := Lib.hid hF1; clear hF1
    clear hbe HF
    go_wp2_with fail
    go_loopw [25] (fun i wr => ∃ k : Nat, k ≤ n ∧ i = .int .i64 k ∧ FillAt n b bn bs w k wr) (fun i _ => n - (intOf i).toNat)
    case atStart => exact ⟨0, Nat.zero_le _, rfl, HF1.out⟩
    case round =>
      obtain ⟨k, hk1, rfl, hf⟩ := hrel
      by_cases hlt : k < n
      · have c0 : wr.cell? ⟨b, 0, none⟩ = some (.slice (some ⟨bn, 0, none⟩) n n) := cell_of_block hf.2.1 0 rfl
        have c1 : wr.cell? ⟨b, 1, none⟩ = some (.slice (some ⟨bs, 0, none⟩) n n) := cell_of_block hf.2.1 1 rfl
        obtain ⟨x, hx⟩ : ∃ u, wr.cell? ⟨bn, k, none⟩ = some u := cell_in hf.2.2.1 (by simp; omega)
        obtain ⟨y, hy⟩ : ∃ u, wr.cell? ⟨bs, k, none⟩ = some u := cell_in hf.2.2.2 (by simp; omega)
        have fx := free_of_block hf.2.2.1 k
        have fy := free_of_block hf.2.2.2 k
        have HR1 := Lib.hid (fill_next hlt n1 n2 n3 b2 b3 hf bn bs (.inl ⟨rfl, rfl⟩))
        have HR2 := Lib.hid (fill_next hlt n1 n2 n3 b2 b3 hf bs bn (.inr ⟨rfl, rfl⟩))
        have HF := Lib.hid hf; clear hf
        clear h0
        go_wp2_with fail
        go_region
        all_goals
          go_wp2_with fail
          go_roundw
          case rel => exact ⟨k + 1, by omega, by go_num, by first | exact HR1.out | exact HR2.out⟩
          case measure => simp [intOf]; omega
      · obtain rfl : k = n := by omega
        have HR := Lib.hid (made_of h2 n1 n2 n3 b1 b2 b3 hf)
        clear hf h0
        go_wp2_with fail
        go_ret2
        exact HR.out

/-- 'New', whatever it is asked. -/
theorem dev_new (n : Int) (w : World) (h : 1 ≤ n ∧ n ≤ 8192) : Calls Try.prog 8 #[.int .i64 n] w (Made n.toNat w) := by
  obtain ⟨k, rfl⟩ : ∃ k : Nat, n = (k : Int) := ⟨n.toNat, by omega⟩
  exact new_walk k w (by omega) (by omega)
end Go.Proofs.Ytaipjialomjhhaa
