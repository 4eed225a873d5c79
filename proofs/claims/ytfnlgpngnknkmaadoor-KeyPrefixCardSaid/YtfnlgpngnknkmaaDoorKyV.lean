/-
  What is proved here: how values lie in memory ('ValsAt'), and that this is what the printed contracts ask and tell; copies; the builder of a key.
  No condition but that lists are no longer than the model's ints.
-/
import Derived.Test.YtfnlgpngnknkmaaDoorKyG
import Derived.Test.YtfnlgpngnknkmaaDoorAt
namespace Go.Proofs.YtfnlgpngnknkmaaDoor
open Go.RowKit Go.Proofs.YtfnlgpngnknkmaaDoor.F Go.Proofs.YtfnlgpngnknkmaaDoorW.PrintWords Go.Proofs.YtfnlgpngnknkmaaDoorW.PrintLast
set_option linter.unusedSimpArgs false
set_option linter.unusedVariables false

/-- The values l lie at p. -/
def ValsAt (w : World) (p : Option Addr) (l : List S45) : Prop :=
  ∀ k x, l[k]? = some x → ∃ b o, p = some ⟨b, o, none⟩ ∧ b < w.heap.size ∧ w.cell? ⟨b, o + k * 3, none⟩ = some (.int .i64 x.f0) ∧ w.cell? ⟨b, o + k * 3 + 1, none⟩ = some (.int .i64 x.f1) ∧ w.cell? ⟨b, o + k * 3 + 2, none⟩ = some (.string x.f2)

theorem ValsAt.only {w W : World} {p : Option Addr} {l : List S45} (h : ValsAt w p l) (ho : Only [] w W) : ValsAt W p l := by
  intro k x hx
  obtain ⟨b, o, rfl, hb, c0, c1, c2⟩ := h k x hx
  exact ⟨b, o, rfl, Nat.lt_of_lt_of_le hb ho.size, by rw [ho.cell hb (by simp)]; exact c0, by rw [ho.cell hb (by simp)]; exact c1, by rw [ho.cell hb (by simp)]; exact c2⟩
theorem ValsAt.nil (w : World) (p : Option Addr) : ValsAt w p [] := by intro k x hx; simp at hx

theorem ValsAt.kd {w : World} {p : Option Addr} {l : List S45} (h : ValsAt w p l) (hl : l.length ≤ 9223372036854775807) : Kd.C k45 w p l.length l := by
  refine ⟨rfl, hl, fun hn => ?_⟩
  obtain ⟨b, o, rfl, _⟩ := h 0 _ (List.getElem?_eq_getElem hn)
  refine ⟨⟨b, o, none⟩, rfl, fun j x hj => ⟨valCell x, rfl, k45_mk w x, fun i u hu => ?_⟩⟩
  obtain ⟨b', o', e, _, c0, c1, c2⟩ := h j x hj
  simp only [Option.some.injEq, Addr.mk.injEq, and_true] at e
  obtain ⟨rfl, rfl⟩ := e
  have hs : k45.sz = 3 := rfl
  rw [hs, add_at]
  have hi : i < 3 := (List.getElem?_eq_some_iff.1 hu).1
  have : i = 0 ∨ i = 1 ∨ i = 2 := by omega
  rcases this with rfl | rfl | rfl
  · simp [valCell] at hu; subst hu; exact c0
  · simp [valCell] at hu; subst hu; exact c1
  · simp [valCell] at hu; subst hu; exact c2

theorem ValsAt.of_kd {w : World} {p : Option Addr} {n : Nat} {l : List S45} (h : Kd.C k45 w p n l) : ValsAt w p l := by
  intro k x hx
  have hlt := (List.getElem?_eq_some_iff.1 hx).1
  obtain ⟨h1, h2, h3⟩ := h
  obtain ⟨ad, rfl, hc⟩ := h3 (by omega)
  obtain ⟨c, _, hK, hcell⟩ := hc k x hx
  obtain rfl := k45_open hK
  have z0 := hcell 0 _ rfl
  have z1 := hcell 1 _ rfl
  have z2 := hcell 2 _ rfl
  have hs : k45.sz = 3 := rfl
  rw [hs] at z0 z1 z2
  obtain ⟨c0, hc0⟩ := hc 0 _ (List.getElem?_eq_getElem (by omega))
  obtain ⟨_, hK0, hcell0⟩ := hc0
  obtain rfl := k45_open hK0
  have y0 := hcell0 0 _ rfl
  rw [Nat.zero_mul, Nat.zero_add, add_zero'] at y0
  obtain ⟨b, o, rfl, hb⟩ := addr_plain y0
  rw [add_at] at z0 z1 z2
  exact ⟨b, o, rfl, hb, z0, z1, z2⟩

theorem Sep.valsAt {w W : World} {p : Option Addr} {n q : Nat} {l : List S45} {r : List Res} (h : Sep w W (rowRes 45 3 (.slice p n q) n (valCells l) :: r)) : ValsAt W p l := by
  intro k x hx
  obtain ⟨e0, e1, e2⟩ := valCells_at l k x hx
  obtain ⟨g, e, h0, _⟩ := ownsRow_cell_of h.row e0
  obtain ⟨g', e', h1, _⟩ := ownsRow_cell_of h.row e1
  obtain ⟨g'', e'', h2, _⟩ := ownsRow_cell_of h.row e2
  subst e
  simp only [Option.some.injEq, Addr.mk.injEq, and_true] at e' e''
  subst e' e''
  have hb : g < W.heap.size := by
    rcases Nat.lt_or_ge g W.heap.size with h' | h'
    · exact h'
    · simp [World.cell?, Array.getElem?_eq_none h'] at h0
  exact ⟨g, 0, rfl, hb, by rw [Nat.zero_add]; exact h0, by rw [Nat.zero_add]; exact h1, by rw [Nat.zero_add]; exact h2⟩

theorem few_any (p : Option Addr) (q : Nat) (l : List S45) (w : World) (h : ValsAt w p l) (hq : l.length ≤ q) (hl : l.length ≤ 1000000) :
    Calls Tryd.prog 12 #[.slice p l.length q] w fun e w' => ∃ p' q', e = .returned (.slice p' l.length q') ∧ l.length ≤ q' ∧ ValsAt w' p' l ∧ Only [] w w' := by
  refine (hedgerowlaw03_few.calls p q l l w (h.kd (by omega)) hq ?_).mono ?_
  · unfold hedgerowlaw03_few.f
    simp only [Option.bind_some, List.nil_append, List.length_nil]
    rw [if_pos (by omega)]
  · rintro e w' ⟨v, rfl, hR, hb⟩
    obtain ⟨A, c, rfl, hc, hC⟩ := Kd.R_reads hR
    exact ⟨A, c, rfl, hc, .of_kd hC, Only.of_below hb⟩

end Go.Proofs.YtfnlgpngnknkmaaDoor
