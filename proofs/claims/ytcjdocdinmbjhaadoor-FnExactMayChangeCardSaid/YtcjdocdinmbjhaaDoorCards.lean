/-
  DERIVED. GIVEN WITH THE SEED: THE CARDS: each row of YtcjdocdinmbjhaaDoorRows.lean that lists a variable, with what it lists TIED to the program's text (the seventh form; the later family's looks); each row that meets fmt, with fmt's text TOLD by the authors' own Lean function (tested against real Go, not proved from fmt's source: count such statements apart). THE CARD IS WHAT COUNTS. Prove the row's statement (the work); the ties are given (YtcjdocdinmbjhaaDoorTie.lean); close each card by the builder's one call (the guide's Derived/Test/ToyasCard.lean, 'card_holds'). Laid BY PROGRAM, IN A SANDBOX (cutbox-door.mjs). By AI agents, Wed Nov 11 2026. No macro, syntax, notation, axiom, sorry.
-/
import Derived.Test.YtcjdocdinmbjhaaDoorRows
import GoSem.ClaimSeven
namespace Go.Proofs.YtcjdocdinmbjhaaDoor
namespace Rows

/-- THE TIED CARD OF 'laws.FnExactHeld'. -/
def fnExactHeldCard : Claim7 := { stood := { row := fnExactHeldRow, standIns := [], harness := (true, "91924dbd6529970cd486e71dd1022ed6f5a3f82402fbb36badee4c492a6b709a"), looks := false }, kinds := [], alts := [], laidByText := true, laidKinds := [.data, .data, .data], laidTests := true, laidLooks := .later }
def FnExactHeldCardSaid : Prop := Claim7.holds Tryd.pinned (.plain (OpenSpec.ofChange fnExactHeldSpec)) fnExactHeldCard

/-- THE TIED CARD OF 'laws.FnExactMayChange'. -/
def fnExactMayChangeCard : Claim7 := { stood := { row := fnExactMayChangeRow, standIns := [], harness := (true, "91924dbd6529970cd486e71dd1022ed6f5a3f82402fbb36badee4c492a6b709a"), looks := false }, kinds := [], alts := [], laidByText := true, laidKinds := [.data, .data, .data], laidTests := true, laidLooks := .later }
def FnExactMayChangeCardSaid : Prop := Claim7.holds Tryd.pinned (.plain (OpenSpec.ofChange fnExactMayChangeSpec)) fnExactMayChangeCard

/-- THE TIED CARD OF 'laws.FnExactItemsOf'. -/
def fnExactItemsOfCard : Claim7 := { stood := { row := fnExactItemsOfRow, standIns := [], harness := (true, "91924dbd6529970cd486e71dd1022ed6f5a3f82402fbb36badee4c492a6b709a"), looks := false }, kinds := [], alts := [], laidByText := true, laidKinds := [.data, .data, .data], laidTests := true, laidLooks := .later }
def FnExactItemsOfCardSaid : Prop := Claim7.holds Tryd.pinned (.plain (OpenSpec.ofChange fnExactItemsOfSpec)) fnExactItemsOfCard

/-- THE TIED CARD OF 'laws.FnExactPutRec'. -/
def fnExactPutRecCard : Claim7 := { stood := { row := fnExactPutRecRow, standIns := [], harness := (true, "91924dbd6529970cd486e71dd1022ed6f5a3f82402fbb36badee4c492a6b709a"), looks := false }, kinds := [], alts := [], laidByText := true, laidKinds := [.data, .data, .data, .data, .pinned], laidTests := true, laidLooks := .later }
def FnExactPutRecCardSaid : Prop := Claim7.holds Tryd.pinned (.plain (OpenSpec.ofChange fnExactPutRecSpec)) fnExactPutRecCard

/-- THE SECOND FORM's CARD OF 'laws.FnExactHeld'. -/
def fnExactHeldUptoCard : Claim7 := { stood := { row := fnExactHeldUptoRow, standIns := [], harness := (true, "91924dbd6529970cd486e71dd1022ed6f5a3f82402fbb36badee4c492a6b709a"), looks := false }, kinds := [], alts := [], laidByText := true, laidKinds := [.data, .data, .data], laidTests := true, laidLooks := .later }
def FnExactHeldUptoCardSaid : Prop := Claim7.holds Tryd.pinned (.plain (OpenSpec.upto fnExactHeldSpec)) fnExactHeldUptoCard

/-- THE SECOND FORM's CARD OF 'laws.FnExactMayChange'. -/
def fnExactMayChangeUptoCard : Claim7 := { stood := { row := fnExactMayChangeUptoRow, standIns := [], harness := (true, "91924dbd6529970cd486e71dd1022ed6f5a3f82402fbb36badee4c492a6b709a"), looks := false }, kinds := [], alts := [], laidByText := true, laidKinds := [.data, .data, .data], laidTests := true, laidLooks := .later }
def FnExactMayChangeUptoCardSaid : Prop := Claim7.holds Tryd.pinned (.plain (OpenSpec.upto fnExactMayChangeSpec)) fnExactMayChangeUptoCard

/-- THE SECOND FORM's CARD OF 'laws.FnExactItemsOf'. -/
def fnExactItemsOfUptoCard : Claim7 := { stood := { row := fnExactItemsOfUptoRow, standIns := [], harness := (true, "91924dbd6529970cd486e71dd1022ed6f5a3f82402fbb36badee4c492a6b709a"), looks := false }, kinds := [], alts := [], laidByText := true, laidKinds := [.data, .data, .data], laidTests := true, laidLooks := .later }
def FnExactItemsOfUptoCardSaid : Prop := Claim7.holds Tryd.pinned (.plain (OpenSpec.upto fnExactItemsOfSpec)) fnExactItemsOfUptoCard

/-- THE SECOND FORM's CARD OF 'laws.FnExactPutRec'. -/
def fnExactPutRecUptoCard : Claim7 := { stood := { row := fnExactPutRecUptoRow, standIns := [], harness := (true, "91924dbd6529970cd486e71dd1022ed6f5a3f82402fbb36badee4c492a6b709a"), looks := false }, kinds := [], alts := [], laidByText := true, laidKinds := [.data, .data, .data, .data, .pinned], laidTests := true, laidLooks := .later }
def FnExactPutRecUptoCardSaid : Prop := Claim7.holds Tryd.pinned (.plain (OpenSpec.upto fnExactPutRecSpec)) fnExactPutRecUptoCard
end Rows
end Go.Proofs.YtcjdocdinmbjhaaDoor
