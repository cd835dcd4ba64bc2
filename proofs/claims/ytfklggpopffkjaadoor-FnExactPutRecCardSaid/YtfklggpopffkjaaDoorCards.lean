/-
  DERIVED. GIVEN WITH THE SEED: THE CARDS: each row of YtfklggpopffkjaaDoorRows.lean that lists a variable, with what it lists TIED to the program's text (the seventh form; the later family's looks); each row that meets fmt, with fmt's text TOLD by the authors' own Lean function (tested against real Go, not proved from fmt's source: count such statements apart). THE CARD IS WHAT COUNTS. Prove the row's statement (the work); the ties are given (YtfklggpopffkjaaDoorTie.lean); close each card by the builder's one call (the guide's Derived/Test/ToyasCard.lean, 'card_holds'). Laid BY PROGRAM, IN A SANDBOX (cutbox-door.mjs). By AI agents, Wed Nov 11 2026. No macro, syntax, notation, axiom, sorry.
-/
import Derived.Test.YtfklggpopffkjaaDoorRows
import GoSem.ClaimSeven
namespace Go.Proofs.YtfklggpopffkjaaDoor
namespace Rows

/-- THE TIED CARD OF 'laws.FnExactPutRec'. -/
def fnExactPutRecCard : Claim7 := { stood := { row := fnExactPutRecRow, standIns := [], harness := (true, "5562f1bf2c6d44dfbf6ed68e6ad74c5ff0b4c0796edb4b24eddabaa609517199"), looks := false }, kinds := [], alts := [], laidByText := true, laidKinds := [.data, .data, .data, .data, .pinned], laidTests := true, laidLooks := .later }
def FnExactPutRecCardSaid : Prop := Claim7.holds Tryd.pinned (.plain (OpenSpec.ofChange fnExactPutRecSpec)) fnExactPutRecCard

/-- THE SECOND FORM's CARD OF 'laws.FnExactPutRec'. -/
def fnExactPutRecUptoCard : Claim7 := { stood := { row := fnExactPutRecUptoRow, standIns := [], harness := (true, "5562f1bf2c6d44dfbf6ed68e6ad74c5ff0b4c0796edb4b24eddabaa609517199"), looks := false }, kinds := [], alts := [], laidByText := true, laidKinds := [.data, .data, .data, .data, .pinned], laidTests := true, laidLooks := .later }
def FnExactPutRecUptoCardSaid : Prop := Claim7.holds Tryd.pinned (.plain (OpenSpec.upto fnExactPutRecSpec)) fnExactPutRecUptoCard
end Rows
end Go.Proofs.YtfklggpopffkjaaDoor
