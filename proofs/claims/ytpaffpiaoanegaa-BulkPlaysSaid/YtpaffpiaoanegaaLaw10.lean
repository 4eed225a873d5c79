/-
  What is proved here: Put and Delete of both trees, whatever the key: each answer, what is left.
  No condition: each lemma names its own.
-/
import Derived.Test.YtpaffpiaoanegaaTreeDl
import Derived.Test.YtpaffpiaoanegaaTreeY
import Derived.Test.YtpaffpiaoanegaaTreeRr
import Derived.Test.YtpaffpiaoanegaaTreeRd
import Derived.Test.YtpaffpiaoanegaaTreeCp
set_option linter.unusedVariables false
set_option linter.unusedSimpArgs false
namespace Go.Proofs.Ytpaffpiaoanegaa
open Go.RowKit

/-- Put, whatever the key: what is left, was it new, the error. -/
def putR (L : List E) (e : E) : List E × Bool × Int :=
  if 4096 < e.1.size then (L, false, 2) else if here L e.1 = true then (putL L e, false, 0) else if L.length = 4096 then (L, false, 3) else (putL L e, true, 0)

theorem putR_len {L : List E} {e : E} (h : L.length ≤ 4096) : (putR L e).1.length ≤ 4096 := by
  unfold putR
  split
  · exact h
  · split
    · rename_i hh; rw [putL_length, if_pos hh]; omega
    · split
      · exact h
      · rename_i hh hn; rw [putL_length, if_neg hh]; omega

theorem tput_all {w W : World} {l : List Res} {q fan : Nat} {L : List E} (hs : Sep w W (treeRes q fan L :: l)) (key : ByteArray) (n : Int) (hlen : L.length ≤ 4096) :
    Calls Try.prog 25 #[.pointer (some ⟨q, 0, none⟩), .string key, .int .i64 n] W fun r W' => r = .returned (.tuple #[.bool (putR L (key, n)).2.1, .int .i64 (putR L (key, n)).2.2]) ∧ Sep w W' (treeRes q fan (putR L (key, n)).1 :: l) := by
  unfold putR
  simp only
  by_cases h1 : 4096 < key.size
  · rw [if_pos h1]
    refine (tput_long key n h1).mono ?_
    rintro r w1 ⟨rfl, rfl⟩
    exact ⟨rfl, hs⟩
  · rw [if_neg h1]
    by_cases h2 : here L key = true
    · rw [if_pos h2]
      refine (tput_any hs key n (by omega) hlen (.inl h2)).mono ?_
      rintro r w1 ⟨rfl, h⟩
      exact ⟨by rw [h2]; rfl, h⟩
    · rw [if_neg h2]
      have h2' : here L key = false := by simpa using h2
      by_cases h3 : L.length = 4096
      · rw [if_pos h3]
        refine (tput_many hs.tree key n (by omega) h3 h2').mono ?_
        rintro r w1 ⟨rfl, h⟩
        exact ⟨rfl, hs.only h⟩
      · rw [if_neg h3]
        refine (tput_any hs key n (by omega) hlen (.inr h3)).mono ?_
        rintro r w1 ⟨rfl, h⟩
        exact ⟨by rw [h2']; rfl, h⟩

theorem rput_all {w W : World} {l : List Res} {b : Nat} {L : List E} (hs : Sep w W (refRes b L :: l)) (key : ByteArray) (n : Int) (hlen : L.length ≤ 4096) :
    Calls Try.prog 12 #[.pointer (some ⟨b, 0, none⟩), .string key, .int .i64 n] W fun r W' => r = .returned (.tuple #[.bool (putR L (key, n)).2.1, .int .i64 (putR L (key, n)).2.2]) ∧ Sep w W' (refRes b (putR L (key, n)).1 :: l) := by
  unfold putR
  simp only
  by_cases h1 : 4096 < key.size
  · rw [if_pos h1]
    refine (rput_long key n h1).mono ?_
    rintro r w1 ⟨rfl, rfl⟩
    exact ⟨rfl, hs⟩
  · rw [if_neg h1]
    by_cases h2 : here L key = true
    · rw [if_pos h2]
      exact rput_here hs key n (by omega) (by omega) h2
    · rw [if_neg h2]
      have h2' : here L key = false := by simpa using h2
      by_cases h3 : L.length = 4096
      · rw [if_pos h3]
        refine (rput_many hs.ref key n (by omega) h3 h2').mono ?_
        rintro r w1 ⟨rfl, rfl⟩
        exact ⟨rfl, hs⟩
      · rw [if_neg h3]
        obtain ⟨⟨p, q⟩, hs1, _⟩ := hs.open
        simp only [refParts, List.cons_append, List.nil_append] at hs1
        have hle := below_le L key
        have hrow := hs1.up1.row
        rcases hrow.2 with ⟨e1, e2⟩ | ⟨g, cap, cur, e1, _, _, h6, _⟩
        · simp only [Value.slice.injEq] at e1
          obtain ⟨rfl, e3, rfl⟩ := e1
          rw [e3] at hs1
          exact rput_new_n (g := 0) (q := 0) (i := 0) hs.ref (by omega) hs1 n (by omega) (by omega) h3 h2' (by omega) rfl
        · simp only [Value.slice.injEq] at e1
          obtain ⟨rfl, _, rfl⟩ := e1
          by_cases hb : below L key < q
          · exact rput_new_s hs.ref rfl hs1 n (by omega) (by omega) h3 h2' hb h6
          · have e4 : L.length = below L key := by omega
            have e5 : q = below L key := by omega
            subst e5
            have hs2 := hs1
            rw [e4] at hs2
            exact rput_new_e (q := 0) hs.ref rfl hs2 n (by omega) (by omega) h3 h2' e4

theorem rdel_all {w W : World} {l : List Res} {b : Nat} {L : List E} (hs : Sep w W (refRes b L :: l)) (key : ByteArray) (hlen : L.length ≤ 4096) :
    Calls Try.prog 24 #[.pointer (some ⟨b, 0, none⟩), .string key] W fun r W' => r = .returned (.bool (here L key)) ∧ Sep w W' (refRes b (delL L key) :: l) := by
  by_cases h2 : here L key = true
  · rw [h2]
    obtain ⟨⟨p, q⟩, hs1, _⟩ := hs.open
    simp only [refParts, List.cons_append, List.nil_append] at hs1
    have hlt := here_get' h2
    have hrow := hs1.up1.row
    rcases hrow.2 with ⟨e1, e2⟩ | ⟨g, cap, cur, e1, _, _, h6, _⟩
    · simp only [Value.slice.injEq] at e1
      omega
    · simp only [Value.slice.injEq] at e1
      obtain ⟨rfl, _, rfl⟩ := e1
      by_cases hb : below L key + 1 < q
      · exact rdel_s hs.ref rfl hs1 (by omega) h2 hb h6
      · have e4 : L.length = below L key + 1 := by omega
        have e5 : q = below L key + 1 := by omega
        subst e5
        have hs2 := hs1
        rw [e4] at hs2
        exact rdel_e (q := 0) hs.ref rfl hs2 (by omega) h2 e4
  · have h2' : here L key = false := by simpa using h2
    rw [h2']
    have hd : delL L key = L := by unfold delL; rw [if_neg h2]
    rw [hd]
    refine (rdel_not hs.ref key (by omega) h2').mono ?_
    rintro r w1 ⟨rfl, rfl⟩
    exact ⟨rfl, hs⟩

end Go.Proofs.Ytpaffpiaoanegaa
