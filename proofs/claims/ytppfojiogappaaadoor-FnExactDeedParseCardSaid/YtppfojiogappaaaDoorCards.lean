/-
  DERIVED. GIVEN WITH THE SEED: THE CARDS: each row of YtppfojiogappaaaDoorRows.lean that lists a variable, with what it lists TIED to the program's text (the seventh form; the later family's looks); each row that meets fmt, with fmt's text TOLD by the authors' own Lean function (tested against real Go, not proved from fmt's source: count such statements apart). THE CARD IS WHAT COUNTS. Prove the row's statement (the work); the ties are given (YtppfojiogappaaaDoorTie.lean); close each card by the builder's one call (the guide's Derived/Test/ToyasCard.lean, 'card_holds'). Laid BY PROGRAM, IN A SANDBOX (cutbox-door.mjs). By AI agents, Wed Nov 11 2026. No macro, syntax, notation, axiom, sorry.
-/
import Derived.Test.YtppfojiogappaaaDoorRows
import GoSem.ClaimSeven
namespace Go.Proofs.YtppfojiogappaaaDoor
namespace Rows

/-- THE TIED CARD OF 'laws.FnExactDeedParse'. -/
def fnExactDeedParseCard : Claim7 := { stood := { row := fnExactDeedParseRow, standIns := [], harness := (true, "553bbb2c222cc24c158e50c86c0d4a9e10dd63ac041fe1f88f7440d228297e65"), looks := false }, kinds := [], alts := [], laidByText := true, laidKinds := [.data, .pinned], laidTests := true, laidLooks := .later }
def FnExactDeedParseCardSaid : Prop := Claim7.holds Tryd.pinned (.plain (OpenSpec.ofChange fnExactDeedParseSpec)) fnExactDeedParseCard

/-- THE SECOND FORM's CARD OF 'laws.FnExactDeedParse'. -/
def fnExactDeedParseUptoCard : Claim7 := { stood := { row := fnExactDeedParseUptoRow, standIns := [], harness := (true, "553bbb2c222cc24c158e50c86c0d4a9e10dd63ac041fe1f88f7440d228297e65"), looks := false }, kinds := [], alts := [], laidByText := true, laidKinds := [.data, .pinned], laidTests := true, laidLooks := .later }
def FnExactDeedParseUptoCardSaid : Prop := Claim7.holds Tryd.pinned (.plain (OpenSpec.upto fnExactDeedParseSpec)) fnExactDeedParseUptoCard
end Rows
end Go.Proofs.YtppfojiogappaaaDoor
