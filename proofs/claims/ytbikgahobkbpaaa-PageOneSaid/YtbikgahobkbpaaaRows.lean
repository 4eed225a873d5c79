/-
  No cell of these rows narrows 'for every input' (looked for: loops, veiled, ifaces, maps, wideKeys, modest, calm, conditions, laid).
  DERIVED. THE GIVEN ROWS OF THIS SEAT. 6 by the template 'for every input the law returns true; each argument reads behind the call as it read before'; 0 by the template 'total and deterministic' (their statements: YtbikgahobkbpaaaTotals.lean).
  GIVEN WITH THE SEED: the statements are not yours to turn. If you find one false, say at which input.
  Laid BY PROGRAM, IN A SANDBOX (cutbox-rows.mjs): the forced cells as the released guide's own fill.sh prints them over the translation df5884c6a459d703… (all of the seat's roots in one cut). By AI agents, Wed Nov 11 2026. No macro, syntax, notation, axiom, sorry.
-/
import Derived.Test.YtbikgahobkbpaaaChecked
import GoSem.Claim
import GoSem.ClaimJoined
import GoSem.ClaimMapViews
import Derived.JoinedTies
import Derived.KernelRfl
namespace Go.Proofs.Ytbikgahobkbpaaa
/- THE CELL 'sum', in the pinned program and in every row, IS THE sha256 OF THE DUMP (.gsa) THAT YtbikgahobkbpaaaProg.lean LOADS. Nothing in Lean hashes anything: it is a label: what it is worth is what the hold of that sum in a sandbox is worth. -/
noncomputable def Try.pinned : Pinned := { name := "ytbikgahobkbpaaa", sum := "df5884c6a459d70386a1e2bb25ddaca4df818cbc30e9a762d3c12605be29c0c8", checked := Try.checked }
namespace Rows
def none {H : Type} : Left H := { results := [], args := [] }

/-- 'hedgerowlaw06.PageOne': WHATEVER THE INPUT: true; the input reads as it did. -/
def pageOneSpec : ChangeSpec := { name := "pageOne", fn := fun _ => fun
  | [d1, d2] => { results := [.lit (.bool true)], args := [d1, d2] }
  | _ => none }
def pageOneRow : OpenClaim := { program := "ytbikgahobkbpaaa", sum := "df5884c6a459d70386a1e2bb25ddaca4df818cbc30e9a762d3c12605be29c0c8", func := "hedgerow/hedgerowlaw06.PageOne", spec := "pageOne", inPlace := ["internal/abi.NoEscape", "internal/bytealg.MakeNoZero"], apart := false }
def PageOneSaid : Prop := pageOneRow.holds Try.pinned (OpenSpec.ofChange pageOneSpec)

/-- ITS FALSE NEIGHBOUR: 'it returns false'. Refute it at one input. -/
def pageOneWrong : ChangeSpec := { name := "pageOne", fn := fun _ => fun
  | [d1, d2] => { results := [.lit (.bool false)], args := [d1, d2] }
  | _ => none }
def PageOneWrongFalsely : Prop := pageOneRow.holds Try.pinned (OpenSpec.ofChange pageOneWrong)

/-- 'hedgerowlaw06.PageApart': WHATEVER THE INPUT: true; the input reads as it did. -/
def pageApartSpec : ChangeSpec := { name := "pageApart", fn := fun _ => fun
  | [d1, d2] => { results := [.lit (.bool true)], args := [d1, d2] }
  | _ => none }
def pageApartRow : OpenClaim := { program := "ytbikgahobkbpaaa", sum := "df5884c6a459d70386a1e2bb25ddaca4df818cbc30e9a762d3c12605be29c0c8", func := "hedgerow/hedgerowlaw06.PageApart", spec := "pageApart", inPlace := ["internal/abi.NoEscape", "internal/bytealg.MakeNoZero"], apart := false }
def PageApartSaid : Prop := pageApartRow.holds Try.pinned (OpenSpec.ofChange pageApartSpec)

/-- ITS FALSE NEIGHBOUR: 'it returns false'. Refute it at one input. -/
def pageApartWrong : ChangeSpec := { name := "pageApart", fn := fun _ => fun
  | [d1, d2] => { results := [.lit (.bool false)], args := [d1, d2] }
  | _ => none }
def PageApartWrongFalsely : Prop := pageApartRow.holds Try.pinned (OpenSpec.ofChange pageApartWrong)

/-- 'hedgerowlaw06.PageRoom': WHATEVER THE INPUT: true; the input reads as it did. -/
def pageRoomSpec : ChangeSpec := { name := "pageRoom", fn := fun _ => fun
  | [d] => { results := [.lit (.bool true)], args := [d] }
  | _ => none }
def pageRoomRow : OpenClaim := { program := "ytbikgahobkbpaaa", sum := "df5884c6a459d70386a1e2bb25ddaca4df818cbc30e9a762d3c12605be29c0c8", func := "hedgerow/hedgerowlaw06.PageRoom", spec := "pageRoom", inPlace := ["internal/abi.NoEscape", "internal/bytealg.MakeNoZero"], apart := false }
def PageRoomSaid : Prop := pageRoomRow.holds Try.pinned (OpenSpec.ofChange pageRoomSpec)

/-- ITS FALSE NEIGHBOUR: 'it returns false'. Refute it at one input. -/
def pageRoomWrong : ChangeSpec := { name := "pageRoom", fn := fun _ => fun
  | [d] => { results := [.lit (.bool false)], args := [d] }
  | _ => none }
def PageRoomWrongFalsely : Prop := pageRoomRow.holds Try.pinned (OpenSpec.ofChange pageRoomWrong)

/-- 'hedgerowlaw06.PageEmpties': WHATEVER THE INPUT: true; the input reads as it did. -/
def pageEmptiesSpec : ChangeSpec := { name := "pageEmpties", fn := fun _ => fun
  | [d1, d2] => { results := [.lit (.bool true)], args := [d1, d2] }
  | _ => none }
def pageEmptiesRow : OpenClaim := { program := "ytbikgahobkbpaaa", sum := "df5884c6a459d70386a1e2bb25ddaca4df818cbc30e9a762d3c12605be29c0c8", func := "hedgerow/hedgerowlaw06.PageEmpties", spec := "pageEmpties", inPlace := ["internal/abi.NoEscape", "internal/bytealg.MakeNoZero"], apart := false }
def PageEmptiesSaid : Prop := pageEmptiesRow.holds Try.pinned (OpenSpec.ofChange pageEmptiesSpec)

/-- ITS FALSE NEIGHBOUR: 'it returns false'. Refute it at one input. -/
def pageEmptiesWrong : ChangeSpec := { name := "pageEmpties", fn := fun _ => fun
  | [d1, d2] => { results := [.lit (.bool false)], args := [d1, d2] }
  | _ => none }
def PageEmptiesWrongFalsely : Prop := pageEmptiesRow.holds Try.pinned (OpenSpec.ofChange pageEmptiesWrong)

/-- 'hedgerowlaw06.PagePlays': WHATEVER THE INPUT: true; the input reads as it did. -/
def pagePlaysSpec : ChangeSpec := { name := "pagePlays", fn := fun _ => fun
  | [d] => { results := [.lit (.bool true)], args := [d] }
  | _ => none }
def pagePlaysRow : OpenClaim := { program := "ytbikgahobkbpaaa", sum := "df5884c6a459d70386a1e2bb25ddaca4df818cbc30e9a762d3c12605be29c0c8", func := "hedgerow/hedgerowlaw06.PagePlays", spec := "pagePlays", inPlace := ["internal/abi.NoEscape", "internal/bytealg.MakeNoZero"], apart := false }
def PagePlaysSaid : Prop := pagePlaysRow.holds Try.pinned (OpenSpec.ofChange pagePlaysSpec)

/-- ITS FALSE NEIGHBOUR: 'it returns false'. Refute it at one input. -/
def pagePlaysWrong : ChangeSpec := { name := "pagePlays", fn := fun _ => fun
  | [d] => { results := [.lit (.bool false)], args := [d] }
  | _ => none }
def PagePlaysWrongFalsely : Prop := pagePlaysRow.holds Try.pinned (OpenSpec.ofChange pagePlaysWrong)

/-- 'hedgerowlaw06.PageOthers': WHATEVER THE INPUT: true; the input reads as it did. -/
def pageOthersSpec : ChangeSpec := { name := "pageOthers", fn := fun _ => fun
  | [d1, d2, d3] => { results := [.lit (.bool true)], args := [d1, d2, d3] }
  | _ => none }
def pageOthersRow : OpenClaim := { program := "ytbikgahobkbpaaa", sum := "df5884c6a459d70386a1e2bb25ddaca4df818cbc30e9a762d3c12605be29c0c8", func := "hedgerow/hedgerowlaw06.PageOthers", spec := "pageOthers", inPlace := ["internal/abi.NoEscape", "internal/bytealg.MakeNoZero"], apart := false }
def PageOthersSaid : Prop := pageOthersRow.holds Try.pinned (OpenSpec.ofChange pageOthersSpec)

/-- ITS FALSE NEIGHBOUR: 'it returns false'. Refute it at one input. -/
def pageOthersWrong : ChangeSpec := { name := "pageOthers", fn := fun _ => fun
  | [d1, d2, d3] => { results := [.lit (.bool false)], args := [d1, d2, d3] }
  | _ => none }
def PageOthersWrongFalsely : Prop := pageOthersRow.holds Try.pinned (OpenSpec.ofChange pageOthersWrong)

/- THE SECOND FORM. 'bulk': how many values and letters a reading holds, each counted each time it is reached (what is shared counts as often as it is met; a slice's spare places count too). A statement '..UptoSaid' is the law's where the arguments, and the package variables that the reading takes, are together of bulk at most 1048576: NARROWER than '..Said'. Prove '..Said' where nothing that the law and all that it calls make is longer than what came in: it says more and counts as full. Else prove '..UptoSaid'. A law counts once. -/
mutual
def uptoBulk {H : Type} : DataW H → Nat
  | .lit (.string bytes) => bytes.length + 1
  | .lit _ => 1
  | .nil => 1
  | .ptr d => uptoBulk d + 1
  | .slice elems spare => uptoBulkAll elems + uptoBulkAll spare + 1
  | .agg parts => uptoBulkAll parts + 1
  | .iface _ d => uptoBulk d + 1
  | .map entries => uptoBulkEntries entries + 1
  | .held _ => 1
def uptoBulkAll {H : Type} : List (DataW H) → Nat
  | [] => 0
  | d :: r => uptoBulk d + uptoBulkAll r
def uptoBulkEntries {H : Type} : List (Lit × DataW H) → Nat
  | [] => 0
  | x :: r => uptoBulkEntry x + uptoBulkEntries r
def uptoBulkEntry {H : Type} : Lit × DataW H → Nat
  | (.string bytes, d) => bytes.length + uptoBulk d + 1
  | (_, d) => uptoBulk d + 1
 end
def uptoSmall : (H : Type) → List (DataW H) → Bool := fun _ ds => decide (uptoBulkAll ds ≤ 1048576)
def OpenSpec.upto (s : _root_.Go.ChangeSpec) : _root_.Go.OpenSpec := { _root_.Go.OpenSpec.ofChange s with cond := some uptoSmall }

/-- 'hedgerowlaw06.PageOne', WHERE WHAT IT READS IS OF BULK AT MOST 1048576: true; the input reads as it did. -/
def pageOneUptoRow : OpenClaim := { program := "ytbikgahobkbpaaa", sum := "df5884c6a459d70386a1e2bb25ddaca4df818cbc30e9a762d3c12605be29c0c8", func := "hedgerow/hedgerowlaw06.PageOne", spec := "pageOne", inPlace := ["internal/abi.NoEscape", "internal/bytealg.MakeNoZero"], apart := false, narrowed := true }
def PageOneUptoSaid : Prop := pageOneUptoRow.holds Try.pinned (OpenSpec.upto pageOneSpec)

/-- 'hedgerowlaw06.PageApart', WHERE WHAT IT READS IS OF BULK AT MOST 1048576: true; the input reads as it did. -/
def pageApartUptoRow : OpenClaim := { program := "ytbikgahobkbpaaa", sum := "df5884c6a459d70386a1e2bb25ddaca4df818cbc30e9a762d3c12605be29c0c8", func := "hedgerow/hedgerowlaw06.PageApart", spec := "pageApart", inPlace := ["internal/abi.NoEscape", "internal/bytealg.MakeNoZero"], apart := false, narrowed := true }
def PageApartUptoSaid : Prop := pageApartUptoRow.holds Try.pinned (OpenSpec.upto pageApartSpec)

/-- 'hedgerowlaw06.PageRoom', WHERE WHAT IT READS IS OF BULK AT MOST 1048576: true; the input reads as it did. -/
def pageRoomUptoRow : OpenClaim := { program := "ytbikgahobkbpaaa", sum := "df5884c6a459d70386a1e2bb25ddaca4df818cbc30e9a762d3c12605be29c0c8", func := "hedgerow/hedgerowlaw06.PageRoom", spec := "pageRoom", inPlace := ["internal/abi.NoEscape", "internal/bytealg.MakeNoZero"], apart := false, narrowed := true }
def PageRoomUptoSaid : Prop := pageRoomUptoRow.holds Try.pinned (OpenSpec.upto pageRoomSpec)

/-- 'hedgerowlaw06.PageEmpties', WHERE WHAT IT READS IS OF BULK AT MOST 1048576: true; the input reads as it did. -/
def pageEmptiesUptoRow : OpenClaim := { program := "ytbikgahobkbpaaa", sum := "df5884c6a459d70386a1e2bb25ddaca4df818cbc30e9a762d3c12605be29c0c8", func := "hedgerow/hedgerowlaw06.PageEmpties", spec := "pageEmpties", inPlace := ["internal/abi.NoEscape", "internal/bytealg.MakeNoZero"], apart := false, narrowed := true }
def PageEmptiesUptoSaid : Prop := pageEmptiesUptoRow.holds Try.pinned (OpenSpec.upto pageEmptiesSpec)

/-- 'hedgerowlaw06.PagePlays', WHERE WHAT IT READS IS OF BULK AT MOST 1048576: true; the input reads as it did. -/
def pagePlaysUptoRow : OpenClaim := { program := "ytbikgahobkbpaaa", sum := "df5884c6a459d70386a1e2bb25ddaca4df818cbc30e9a762d3c12605be29c0c8", func := "hedgerow/hedgerowlaw06.PagePlays", spec := "pagePlays", inPlace := ["internal/abi.NoEscape", "internal/bytealg.MakeNoZero"], apart := false, narrowed := true }
def PagePlaysUptoSaid : Prop := pagePlaysUptoRow.holds Try.pinned (OpenSpec.upto pagePlaysSpec)

/-- 'hedgerowlaw06.PageOthers', WHERE WHAT IT READS IS OF BULK AT MOST 1048576: true; the input reads as it did. -/
def pageOthersUptoRow : OpenClaim := { program := "ytbikgahobkbpaaa", sum := "df5884c6a459d70386a1e2bb25ddaca4df818cbc30e9a762d3c12605be29c0c8", func := "hedgerow/hedgerowlaw06.PageOthers", spec := "pageOthers", inPlace := ["internal/abi.NoEscape", "internal/bytealg.MakeNoZero"], apart := false, narrowed := true }
def PageOthersUptoSaid : Prop := pageOthersUptoRow.holds Try.pinned (OpenSpec.upto pageOthersSpec)

end Rows
end Go.Proofs.Ytbikgahobkbpaaa
