/-
  DERIVED. GIVEN WITH THE SEED: THE CARDS: each row of YtfnlgpngnknkmaaDoorRows.lean that lists a variable, with what it lists TIED to the program's text (the seventh form; the later family's looks); each row that meets fmt, with fmt's text TOLD by the authors' own Lean function (tested against real Go, not proved from fmt's source: count such statements apart). THE CARD IS WHAT COUNTS. Prove the row's statement (the work); the ties are given (YtfnlgpngnknkmaaDoorTie.lean); close each card by the builder's one call (the guide's Derived/Test/ToyasCard.lean, 'card_holds'). Laid BY PROGRAM, IN A SANDBOX (cutbox-door.mjs). By AI agents, Wed Nov 11 2026. No macro, syntax, notation, axiom, sorry.
-/
import Derived.Test.YtfnlgpngnknkmaaDoorRows
import GoSem.ClaimSeven
namespace Go.Proofs.YtfnlgpngnknkmaaDoor
namespace Rows

/-- THE TIED CARD OF 'hedgerowlaw03.KeyMakes'. -/
def keyMakesCard : Claim7 := { stood := { row := keyMakesRow, standIns := [], harness := (true, "3ab0d146e1b5d49dd5adc3d9a921d33cd82718740ff5721b35351aa1c2247bc9"), looks := false }, kinds := [], alts := [], laidByText := true, laidKinds := [.data, .pinned], laidTests := true, laidLooks := .later }
def KeyMakesCardSaid : Prop := Claim7.holds Tryd.pinned (.plain (OpenSpec.ofChange keyMakesSpec)) keyMakesCard

/-- THE TIED CARD OF 'hedgerowlaw03.KeySplits'. -/
def keySplitsCard : Claim7 := { stood := { row := keySplitsRow, standIns := [], harness := (true, "3ab0d146e1b5d49dd5adc3d9a921d33cd82718740ff5721b35351aa1c2247bc9"), looks := false }, kinds := [], alts := [], laidByText := true, laidKinds := [.data, .pinned], laidTests := true, laidLooks := .later }
def KeySplitsCardSaid : Prop := Claim7.holds Tryd.pinned (.plain (OpenSpec.ofChange keySplitsSpec)) keySplitsCard

/-- THE TIED CARD OF 'hedgerowlaw03.KeyOrder'. -/
def keyOrderCard : Claim7 := { stood := { row := keyOrderRow, standIns := [], harness := (true, "3ab0d146e1b5d49dd5adc3d9a921d33cd82718740ff5721b35351aa1c2247bc9"), looks := false }, kinds := [], alts := [], laidByText := true, laidKinds := [.data, .pinned], laidTests := true, laidLooks := .later }
def KeyOrderCardSaid : Prop := Claim7.holds Tryd.pinned (.plain (OpenSpec.ofChange keyOrderSpec)) keyOrderCard

/-- THE TIED CARD OF 'hedgerowlaw03.KeyBack'. -/
def keyBackCard : Claim7 := { stood := { row := keyBackRow, standIns := [], harness := (true, "3ab0d146e1b5d49dd5adc3d9a921d33cd82718740ff5721b35351aa1c2247bc9"), looks := false }, kinds := [], alts := [], laidByText := true, laidKinds := [.data, .pinned], laidTests := true, laidLooks := .later }
def KeyBackCardSaid : Prop := Claim7.holds Tryd.pinned (.plain (OpenSpec.ofChange keyBackSpec)) keyBackCard

/-- THE TIED CARD OF 'hedgerowlaw03.KeyAfter'. -/
def keyAfterCard : Claim7 := { stood := { row := keyAfterRow, standIns := [], harness := (true, "3ab0d146e1b5d49dd5adc3d9a921d33cd82718740ff5721b35351aa1c2247bc9"), looks := false }, kinds := [], alts := [], laidByText := true, laidKinds := [.data, .pinned], laidTests := true, laidLooks := .later }
def KeyAfterCardSaid : Prop := Claim7.holds Tryd.pinned (.plain (OpenSpec.ofChange keyAfterSpec)) keyAfterCard

/-- THE TIED CARD OF 'hedgerowlaw03.KeyJoins'. -/
def keyJoinsCard : Claim7 := { stood := { row := keyJoinsRow, standIns := [], harness := (true, "3ab0d146e1b5d49dd5adc3d9a921d33cd82718740ff5721b35351aa1c2247bc9"), looks := false }, kinds := [], alts := [], laidByText := true, laidKinds := [.data, .pinned], laidTests := true, laidLooks := .later }
def KeyJoinsCardSaid : Prop := Claim7.holds Tryd.pinned (.plain (OpenSpec.ofChange keyJoinsSpec)) keyJoinsCard

/-- THE TIED CARD OF 'hedgerowlaw03.KeyPrefix'. -/
def keyPrefixCard : Claim7 := { stood := { row := keyPrefixRow, standIns := [], harness := (true, "3ab0d146e1b5d49dd5adc3d9a921d33cd82718740ff5721b35351aa1c2247bc9"), looks := false }, kinds := [], alts := [], laidByText := true, laidKinds := [.data, .pinned], laidTests := true, laidLooks := .later }
def KeyPrefixCardSaid : Prop := Claim7.holds Tryd.pinned (.plain (OpenSpec.ofChange keyPrefixSpec)) keyPrefixCard

/-- THE SECOND FORM's CARD OF 'hedgerowlaw03.KeyMakes'. -/
def keyMakesUptoCard : Claim7 := { stood := { row := keyMakesUptoRow, standIns := [], harness := (true, "3ab0d146e1b5d49dd5adc3d9a921d33cd82718740ff5721b35351aa1c2247bc9"), looks := false }, kinds := [], alts := [], laidByText := true, laidKinds := [.data, .pinned], laidTests := true, laidLooks := .later }
def KeyMakesUptoCardSaid : Prop := Claim7.holds Tryd.pinned (.plain (OpenSpec.upto keyMakesSpec)) keyMakesUptoCard

/-- THE SECOND FORM's CARD OF 'hedgerowlaw03.KeySplits'. -/
def keySplitsUptoCard : Claim7 := { stood := { row := keySplitsUptoRow, standIns := [], harness := (true, "3ab0d146e1b5d49dd5adc3d9a921d33cd82718740ff5721b35351aa1c2247bc9"), looks := false }, kinds := [], alts := [], laidByText := true, laidKinds := [.data, .pinned], laidTests := true, laidLooks := .later }
def KeySplitsUptoCardSaid : Prop := Claim7.holds Tryd.pinned (.plain (OpenSpec.upto keySplitsSpec)) keySplitsUptoCard

/-- THE SECOND FORM's CARD OF 'hedgerowlaw03.KeyOrder'. -/
def keyOrderUptoCard : Claim7 := { stood := { row := keyOrderUptoRow, standIns := [], harness := (true, "3ab0d146e1b5d49dd5adc3d9a921d33cd82718740ff5721b35351aa1c2247bc9"), looks := false }, kinds := [], alts := [], laidByText := true, laidKinds := [.data, .pinned], laidTests := true, laidLooks := .later }
def KeyOrderUptoCardSaid : Prop := Claim7.holds Tryd.pinned (.plain (OpenSpec.upto keyOrderSpec)) keyOrderUptoCard

/-- THE SECOND FORM's CARD OF 'hedgerowlaw03.KeyBack'. -/
def keyBackUptoCard : Claim7 := { stood := { row := keyBackUptoRow, standIns := [], harness := (true, "3ab0d146e1b5d49dd5adc3d9a921d33cd82718740ff5721b35351aa1c2247bc9"), looks := false }, kinds := [], alts := [], laidByText := true, laidKinds := [.data, .pinned], laidTests := true, laidLooks := .later }
def KeyBackUptoCardSaid : Prop := Claim7.holds Tryd.pinned (.plain (OpenSpec.upto keyBackSpec)) keyBackUptoCard

/-- THE SECOND FORM's CARD OF 'hedgerowlaw03.KeyAfter'. -/
def keyAfterUptoCard : Claim7 := { stood := { row := keyAfterUptoRow, standIns := [], harness := (true, "3ab0d146e1b5d49dd5adc3d9a921d33cd82718740ff5721b35351aa1c2247bc9"), looks := false }, kinds := [], alts := [], laidByText := true, laidKinds := [.data, .pinned], laidTests := true, laidLooks := .later }
def KeyAfterUptoCardSaid : Prop := Claim7.holds Tryd.pinned (.plain (OpenSpec.upto keyAfterSpec)) keyAfterUptoCard

/-- THE SECOND FORM's CARD OF 'hedgerowlaw03.KeyJoins'. -/
def keyJoinsUptoCard : Claim7 := { stood := { row := keyJoinsUptoRow, standIns := [], harness := (true, "3ab0d146e1b5d49dd5adc3d9a921d33cd82718740ff5721b35351aa1c2247bc9"), looks := false }, kinds := [], alts := [], laidByText := true, laidKinds := [.data, .pinned], laidTests := true, laidLooks := .later }
def KeyJoinsUptoCardSaid : Prop := Claim7.holds Tryd.pinned (.plain (OpenSpec.upto keyJoinsSpec)) keyJoinsUptoCard

/-- THE SECOND FORM's CARD OF 'hedgerowlaw03.KeyPrefix'. -/
def keyPrefixUptoCard : Claim7 := { stood := { row := keyPrefixUptoRow, standIns := [], harness := (true, "3ab0d146e1b5d49dd5adc3d9a921d33cd82718740ff5721b35351aa1c2247bc9"), looks := false }, kinds := [], alts := [], laidByText := true, laidKinds := [.data, .pinned], laidTests := true, laidLooks := .later }
def KeyPrefixUptoCardSaid : Prop := Claim7.holds Tryd.pinned (.plain (OpenSpec.upto keyPrefixSpec)) keyPrefixUptoCard
end Rows
end Go.Proofs.YtfnlgpngnknkmaaDoor
