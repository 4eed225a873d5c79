/-
  DERIVED. GIVEN WITH THE SEED: THE CARDS: each row of YtipfjjcokajjjaaDoorRows.lean that lists a variable, with what it lists TIED to the program's text (the seventh form; the later family's looks); each row that meets fmt, with fmt's text TOLD by the authors' own Lean function (tested against real Go, not proved from fmt's source: count such statements apart). THE CARD IS WHAT COUNTS. Prove the row's statement (the work); the ties are given (YtipfjjcokajjjaaDoorTie.lean); close each card by the builder's one call (the guide's Derived/Test/ToyasCard.lean, 'card_holds'). Laid BY PROGRAM, IN A SANDBOX (cutbox-door.mjs). By AI agents, Wed Nov 11 2026. No macro, syntax, notation, axiom, sorry.
-/
import Derived.Test.YtipfjjcokajjjaaDoorRows
import GoSem.ClaimSeven
namespace Go.Proofs.YtipfjjcokajjjaaDoor
namespace Rows

/-- THE TIED CARD OF 'hedgerowlaw12.LockPlays'. -/
def lockPlaysCard : Claim7 := { stood := { row := lockPlaysRow, standIns := [], harness := (true, "1ad32fecd58a1cf8186f56b043416987b8bcf1efe117ad78d4b5cf5cbeffcf2d"), looks := false }, kinds := [], alts := [], laidByText := true, laidKinds := [.data], laidTests := true, laidLooks := .later }
def LockPlaysCardSaid : Prop := Claim7.holds Tryd.pinned (.plain (OpenSpec.ofChange lockPlaysSpec)) lockPlaysCard

/-- THE TIED CARD OF 'hedgerowlaw12.LockAlone'. -/
def lockAloneCard : Claim7 := { stood := { row := lockAloneRow, standIns := [], harness := (true, "1ad32fecd58a1cf8186f56b043416987b8bcf1efe117ad78d4b5cf5cbeffcf2d"), looks := false }, kinds := [], alts := [], laidByText := true, laidKinds := [.data], laidTests := true, laidLooks := .later }
def LockAloneCardSaid : Prop := Claim7.holds Tryd.pinned (.plain (OpenSpec.ofChange lockAloneSpec)) lockAloneCard

/-- THE TIED CARD OF 'hedgerowlaw12.LockEnds'. -/
def lockEndsCard : Claim7 := { stood := { row := lockEndsRow, standIns := [], harness := (true, "1ad32fecd58a1cf8186f56b043416987b8bcf1efe117ad78d4b5cf5cbeffcf2d"), looks := false }, kinds := [], alts := [], laidByText := true, laidKinds := [.data], laidTests := true, laidLooks := .later }
def LockEndsCardSaid : Prop := Claim7.holds Tryd.pinned (.plain (OpenSpec.ofChange lockEndsSpec)) lockEndsCard

/-- THE TIED CARD OF 'hedgerowlaw12.LockMany'. -/
def lockManyCard : Claim7 := { stood := { row := lockManyRow, standIns := [], harness := (true, "1ad32fecd58a1cf8186f56b043416987b8bcf1efe117ad78d4b5cf5cbeffcf2d"), looks := false }, kinds := [], alts := [], laidByText := true, laidKinds := [.data], laidTests := true, laidLooks := .later }
def LockManyCardSaid : Prop := Claim7.holds Tryd.pinned (.plain (OpenSpec.ofChange lockManySpec)) lockManyCard

/-- THE TIED CARD OF 'hedgerowlaw12.LockNone'. -/
def lockNoneCard : Claim7 := { stood := { row := lockNoneRow, standIns := [], harness := (true, "1ad32fecd58a1cf8186f56b043416987b8bcf1efe117ad78d4b5cf5cbeffcf2d"), looks := false }, kinds := [], alts := [], laidByText := true, laidKinds := [.data], laidTests := true, laidLooks := .later }
def LockNoneCardSaid : Prop := Claim7.holds Tryd.pinned (.plain (OpenSpec.ofChange lockNoneSpec)) lockNoneCard

/-- THE TIED CARD OF 'hedgerowlaw12.LockTurns'. -/
def lockTurnsCard : Claim7 := { stood := { row := lockTurnsRow, standIns := [], harness := (true, "1ad32fecd58a1cf8186f56b043416987b8bcf1efe117ad78d4b5cf5cbeffcf2d"), looks := false }, kinds := [], alts := [], laidByText := true, laidKinds := [.data], laidTests := true, laidLooks := .later }
def LockTurnsCardSaid : Prop := Claim7.holds Tryd.pinned (.plain (OpenSpec.ofChange lockTurnsSpec)) lockTurnsCard

/-- THE TIED CARD OF 'hedgerowlaw12.LockMixed'. -/
def lockMixedCard : Claim7 := { stood := { row := lockMixedRow, standIns := [], harness := (true, "1ad32fecd58a1cf8186f56b043416987b8bcf1efe117ad78d4b5cf5cbeffcf2d"), looks := false }, kinds := [], alts := [], laidByText := true, laidKinds := [.data], laidTests := true, laidLooks := .later }
def LockMixedCardSaid : Prop := Claim7.holds Tryd.pinned (.plain (OpenSpec.ofChange lockMixedSpec)) lockMixedCard

/-- THE SECOND FORM's CARD OF 'hedgerowlaw12.LockPlays'. -/
def lockPlaysUptoCard : Claim7 := { stood := { row := lockPlaysUptoRow, standIns := [], harness := (true, "1ad32fecd58a1cf8186f56b043416987b8bcf1efe117ad78d4b5cf5cbeffcf2d"), looks := false }, kinds := [], alts := [], laidByText := true, laidKinds := [.data], laidTests := true, laidLooks := .later }
def LockPlaysUptoCardSaid : Prop := Claim7.holds Tryd.pinned (.plain (OpenSpec.upto lockPlaysSpec)) lockPlaysUptoCard

/-- THE SECOND FORM's CARD OF 'hedgerowlaw12.LockAlone'. -/
def lockAloneUptoCard : Claim7 := { stood := { row := lockAloneUptoRow, standIns := [], harness := (true, "1ad32fecd58a1cf8186f56b043416987b8bcf1efe117ad78d4b5cf5cbeffcf2d"), looks := false }, kinds := [], alts := [], laidByText := true, laidKinds := [.data], laidTests := true, laidLooks := .later }
def LockAloneUptoCardSaid : Prop := Claim7.holds Tryd.pinned (.plain (OpenSpec.upto lockAloneSpec)) lockAloneUptoCard

/-- THE SECOND FORM's CARD OF 'hedgerowlaw12.LockEnds'. -/
def lockEndsUptoCard : Claim7 := { stood := { row := lockEndsUptoRow, standIns := [], harness := (true, "1ad32fecd58a1cf8186f56b043416987b8bcf1efe117ad78d4b5cf5cbeffcf2d"), looks := false }, kinds := [], alts := [], laidByText := true, laidKinds := [.data], laidTests := true, laidLooks := .later }
def LockEndsUptoCardSaid : Prop := Claim7.holds Tryd.pinned (.plain (OpenSpec.upto lockEndsSpec)) lockEndsUptoCard

/-- THE SECOND FORM's CARD OF 'hedgerowlaw12.LockMany'. -/
def lockManyUptoCard : Claim7 := { stood := { row := lockManyUptoRow, standIns := [], harness := (true, "1ad32fecd58a1cf8186f56b043416987b8bcf1efe117ad78d4b5cf5cbeffcf2d"), looks := false }, kinds := [], alts := [], laidByText := true, laidKinds := [.data], laidTests := true, laidLooks := .later }
def LockManyUptoCardSaid : Prop := Claim7.holds Tryd.pinned (.plain (OpenSpec.upto lockManySpec)) lockManyUptoCard

/-- THE SECOND FORM's CARD OF 'hedgerowlaw12.LockNone'. -/
def lockNoneUptoCard : Claim7 := { stood := { row := lockNoneUptoRow, standIns := [], harness := (true, "1ad32fecd58a1cf8186f56b043416987b8bcf1efe117ad78d4b5cf5cbeffcf2d"), looks := false }, kinds := [], alts := [], laidByText := true, laidKinds := [.data], laidTests := true, laidLooks := .later }
def LockNoneUptoCardSaid : Prop := Claim7.holds Tryd.pinned (.plain (OpenSpec.upto lockNoneSpec)) lockNoneUptoCard

/-- THE SECOND FORM's CARD OF 'hedgerowlaw12.LockTurns'. -/
def lockTurnsUptoCard : Claim7 := { stood := { row := lockTurnsUptoRow, standIns := [], harness := (true, "1ad32fecd58a1cf8186f56b043416987b8bcf1efe117ad78d4b5cf5cbeffcf2d"), looks := false }, kinds := [], alts := [], laidByText := true, laidKinds := [.data], laidTests := true, laidLooks := .later }
def LockTurnsUptoCardSaid : Prop := Claim7.holds Tryd.pinned (.plain (OpenSpec.upto lockTurnsSpec)) lockTurnsUptoCard

/-- THE SECOND FORM's CARD OF 'hedgerowlaw12.LockMixed'. -/
def lockMixedUptoCard : Claim7 := { stood := { row := lockMixedUptoRow, standIns := [], harness := (true, "1ad32fecd58a1cf8186f56b043416987b8bcf1efe117ad78d4b5cf5cbeffcf2d"), looks := false }, kinds := [], alts := [], laidByText := true, laidKinds := [.data], laidTests := true, laidLooks := .later }
def LockMixedUptoCardSaid : Prop := Claim7.holds Tryd.pinned (.plain (OpenSpec.upto lockMixedSpec)) lockMixedUptoCard
end Rows
end Go.Proofs.YtipfjjcokajjjaaDoor
