/-
  DERIVED. GIVEN WITH THE SEED: THE CARDS: each row of YtfklggpopffkjaaGreatDoorRows.lean that lists a variable, with what it lists TIED to the program's text (the seventh form; the later family's looks); each row that meets fmt, with fmt's text TOLD by the authors' own Lean function (tested against real Go, not proved from fmt's source: count such statements apart). THE CARD IS WHAT COUNTS. Prove the row's statement (the work); the ties are given (YtfklggpopffkjaaGreatDoorTie.lean); close each card by the builder's one call (the guide's Derived/Test/ToyasCard.lean, 'card_holds'). Laid BY PROGRAM, IN A SANDBOX (cutbox-door.mjs). By AI agents, Wed Nov 11 2026. No macro, syntax, notation, axiom, sorry.
-/
import Derived.Test.YtfklggpopffkjaaGreatDoorRows
import GoSem.ClaimSeven
namespace Go.Proofs.YtfklggpopffkjaaGreatDoor
namespace Rows

/-- THE TIED CARD OF 'laws.FnExactSafe'. -/
def fnExactSafeCard : Claim7 := { stood := { row := fnExactSafeRow, standIns := [], harness := (true, "5a6cc73461384e61e11befc93709f79888e1697c1dbb05178e7c9f19500ef267"), looks := true }, kinds := [], alts := [], laidByText := true, laidKinds := [.data, .data, .data], laidTests := true, laidLooks := .later }
def FnExactSafeCardSaid : Prop := Claim7.holds Tryz.pinned (.plain (OpenSpec.ofChange fnExactSafeSpec)) fnExactSafeCard

/-- THE TIED CARD OF 'laws.FnExactGetRec'. -/
def fnExactGetRecCard : Claim7 := { stood := { row := fnExactGetRecRow, standIns := [], harness := (true, "5a6cc73461384e61e11befc93709f79888e1697c1dbb05178e7c9f19500ef267"), looks := true }, kinds := [], alts := [], laidByText := true, laidKinds := [.data, .data, .data, .data, .sentinel, .sentinel, .pinned], laidTests := true, laidLooks := .later }
def FnExactGetRecCardSaid : Prop := Claim7.holds Tryz.pinned (.plain (OpenSpec.ofChange fnExactGetRecSpec)) fnExactGetRecCard

/-- THE TIED CARD OF 'laws.FnExactRecsOf'. -/
def fnExactRecsOfCard : Claim7 := { stood := { row := fnExactRecsOfRow, standIns := [], harness := (true, "5a6cc73461384e61e11befc93709f79888e1697c1dbb05178e7c9f19500ef267"), looks := true }, kinds := [], alts := [], laidByText := true, laidKinds := [.data, .data, .data, .data, .sentinel, .sentinel, .pinned], laidTests := true, laidLooks := .later }
def FnExactRecsOfCardSaid : Prop := Claim7.holds Tryz.pinned (.plain (OpenSpec.ofChange fnExactRecsOfSpec)) fnExactRecsOfCard

/-- THE TIED CARD OF 'laws.FnRecs'. -/
def fnRecsCard : Claim7 := { stood := { row := fnRecsRow, standIns := [], harness := (true, "5a6cc73461384e61e11befc93709f79888e1697c1dbb05178e7c9f19500ef267"), looks := true }, kinds := [], alts := [], laidByText := true, laidKinds := [.data, .data, .data, .data, .sentinel, .sentinel, .pinned], laidTests := true, laidLooks := .later }
def FnRecsCardSaid : Prop := Claim7.holds Tryz.pinned (.plain (OpenSpec.ofChange fnRecsSpec)) fnRecsCard

/-- THE SECOND FORM's CARD OF 'laws.FnExactSafe'. -/
def fnExactSafeUptoCard : Claim7 := { stood := { row := fnExactSafeUptoRow, standIns := [], harness := (true, "5a6cc73461384e61e11befc93709f79888e1697c1dbb05178e7c9f19500ef267"), looks := true }, kinds := [], alts := [], laidByText := true, laidKinds := [.data, .data, .data], laidTests := true, laidLooks := .later }
def FnExactSafeUptoCardSaid : Prop := Claim7.holds Tryz.pinned (.plain (OpenSpec.upto fnExactSafeSpec)) fnExactSafeUptoCard

/-- THE SECOND FORM's CARD OF 'laws.FnExactGetRec'. -/
def fnExactGetRecUptoCard : Claim7 := { stood := { row := fnExactGetRecUptoRow, standIns := [], harness := (true, "5a6cc73461384e61e11befc93709f79888e1697c1dbb05178e7c9f19500ef267"), looks := true }, kinds := [], alts := [], laidByText := true, laidKinds := [.data, .data, .data, .data, .sentinel, .sentinel, .pinned], laidTests := true, laidLooks := .later }
def FnExactGetRecUptoCardSaid : Prop := Claim7.holds Tryz.pinned (.plain (OpenSpec.upto fnExactGetRecSpec)) fnExactGetRecUptoCard

/-- THE SECOND FORM's CARD OF 'laws.FnExactRecsOf'. -/
def fnExactRecsOfUptoCard : Claim7 := { stood := { row := fnExactRecsOfUptoRow, standIns := [], harness := (true, "5a6cc73461384e61e11befc93709f79888e1697c1dbb05178e7c9f19500ef267"), looks := true }, kinds := [], alts := [], laidByText := true, laidKinds := [.data, .data, .data, .data, .sentinel, .sentinel, .pinned], laidTests := true, laidLooks := .later }
def FnExactRecsOfUptoCardSaid : Prop := Claim7.holds Tryz.pinned (.plain (OpenSpec.upto fnExactRecsOfSpec)) fnExactRecsOfUptoCard

/-- THE SECOND FORM's CARD OF 'laws.FnRecs'. -/
def fnRecsUptoCard : Claim7 := { stood := { row := fnRecsUptoRow, standIns := [], harness := (true, "5a6cc73461384e61e11befc93709f79888e1697c1dbb05178e7c9f19500ef267"), looks := true }, kinds := [], alts := [], laidByText := true, laidKinds := [.data, .data, .data, .data, .sentinel, .sentinel, .pinned], laidTests := true, laidLooks := .later }
def FnRecsUptoCardSaid : Prop := Claim7.holds Tryz.pinned (.plain (OpenSpec.upto fnRecsSpec)) fnRecsUptoCard
end Rows
end Go.Proofs.YtfklggpopffkjaaGreatDoor
