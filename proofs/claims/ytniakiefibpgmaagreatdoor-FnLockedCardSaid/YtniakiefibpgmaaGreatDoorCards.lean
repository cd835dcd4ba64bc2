/-
  DERIVED. GIVEN WITH THE SEED: THE CARDS: each row of YtniakiefibpgmaaGreatDoorRows.lean that lists a variable, with what it lists TIED to the program's text (the seventh form; the later family's looks); each row that meets fmt, with fmt's text TOLD by the authors' own Lean function (tested against real Go, not proved from fmt's source: count such statements apart). THE CARD IS WHAT COUNTS. Prove the row's statement (the work); the ties are given (YtniakiefibpgmaaGreatDoorTie.lean); close each card by the builder's one call (the guide's Derived/Test/ToyasCard.lean, 'card_holds'). Laid BY PROGRAM, IN A SANDBOX (cutbox-door.mjs). By AI agents, Wed Nov 11 2026. No macro, syntax, notation, axiom, sorry.
-/
import Derived.Test.YtniakiefibpgmaaGreatDoorRows
import GoSem.ClaimSeven
namespace Go.Proofs.YtniakiefibpgmaaGreatDoor
namespace Rows

/-- THE TIED CARD OF 'laws.FnRecs'. -/
def fnRecsCard : Claim7 := { stood := { row := fnRecsRow, standIns := [], harness := (true, "953fbb034abf9c31bb50c9f8aca8c19778de9ea0b13e3033be8e996a36b93d88"), looks := true }, kinds := [], alts := [], laidByText := true, laidKinds := [.data, .data, .data, .data, .sentinel, .sentinel, .pinned], laidTests := true, laidLooks := .later }
def FnRecsCardSaid : Prop := Claim7.holds Tryz.pinned (.plain (OpenSpec.ofChange fnRecsSpec)) fnRecsCard

/-- THE TIED CARD OF 'laws.FnExactGetRec'. -/
def fnExactGetRecCard : Claim7 := { stood := { row := fnExactGetRecRow, standIns := [], harness := (true, "953fbb034abf9c31bb50c9f8aca8c19778de9ea0b13e3033be8e996a36b93d88"), looks := true }, kinds := [], alts := [], laidByText := true, laidKinds := [.data, .data, .data, .data, .sentinel, .sentinel, .pinned], laidTests := true, laidLooks := .later }
def FnExactGetRecCardSaid : Prop := Claim7.holds Tryz.pinned (.plain (OpenSpec.ofChange fnExactGetRecSpec)) fnExactGetRecCard

/-- THE TIED CARD OF 'laws.FnExactRecsOf'. -/
def fnExactRecsOfCard : Claim7 := { stood := { row := fnExactRecsOfRow, standIns := [], harness := (true, "953fbb034abf9c31bb50c9f8aca8c19778de9ea0b13e3033be8e996a36b93d88"), looks := true }, kinds := [], alts := [], laidByText := true, laidKinds := [.data, .data, .data, .data, .sentinel, .sentinel, .pinned], laidTests := true, laidLooks := .later }
def FnExactRecsOfCardSaid : Prop := Claim7.holds Tryz.pinned (.plain (OpenSpec.ofChange fnExactRecsOfSpec)) fnExactRecsOfCard

/-- THE TIED CARD OF 'laws.FnLocked'. -/
def fnLockedCard : Claim7 := { stood := { row := fnLockedRow, standIns := [], harness := (true, "953fbb034abf9c31bb50c9f8aca8c19778de9ea0b13e3033be8e996a36b93d88"), looks := true }, kinds := [], alts := [], laidByText := true, laidKinds := [.data, .data, .data, .data, .sentinel, .sentinel, .pinned], laidTests := true, laidLooks := .later }
def FnLockedCardSaid : Prop := Claim7.holds Tryz.pinned (.plain (OpenSpec.ofChange fnLockedSpec)) fnLockedCard

/-- THE SECOND FORM's CARD OF 'laws.FnRecs'. -/
def fnRecsUptoCard : Claim7 := { stood := { row := fnRecsUptoRow, standIns := [], harness := (true, "953fbb034abf9c31bb50c9f8aca8c19778de9ea0b13e3033be8e996a36b93d88"), looks := true }, kinds := [], alts := [], laidByText := true, laidKinds := [.data, .data, .data, .data, .sentinel, .sentinel, .pinned], laidTests := true, laidLooks := .later }
def FnRecsUptoCardSaid : Prop := Claim7.holds Tryz.pinned (.plain (OpenSpec.upto fnRecsSpec)) fnRecsUptoCard

/-- THE SECOND FORM's CARD OF 'laws.FnExactGetRec'. -/
def fnExactGetRecUptoCard : Claim7 := { stood := { row := fnExactGetRecUptoRow, standIns := [], harness := (true, "953fbb034abf9c31bb50c9f8aca8c19778de9ea0b13e3033be8e996a36b93d88"), looks := true }, kinds := [], alts := [], laidByText := true, laidKinds := [.data, .data, .data, .data, .sentinel, .sentinel, .pinned], laidTests := true, laidLooks := .later }
def FnExactGetRecUptoCardSaid : Prop := Claim7.holds Tryz.pinned (.plain (OpenSpec.upto fnExactGetRecSpec)) fnExactGetRecUptoCard

/-- THE SECOND FORM's CARD OF 'laws.FnExactRecsOf'. -/
def fnExactRecsOfUptoCard : Claim7 := { stood := { row := fnExactRecsOfUptoRow, standIns := [], harness := (true, "953fbb034abf9c31bb50c9f8aca8c19778de9ea0b13e3033be8e996a36b93d88"), looks := true }, kinds := [], alts := [], laidByText := true, laidKinds := [.data, .data, .data, .data, .sentinel, .sentinel, .pinned], laidTests := true, laidLooks := .later }
def FnExactRecsOfUptoCardSaid : Prop := Claim7.holds Tryz.pinned (.plain (OpenSpec.upto fnExactRecsOfSpec)) fnExactRecsOfUptoCard

/-- THE SECOND FORM's CARD OF 'laws.FnLocked'. -/
def fnLockedUptoCard : Claim7 := { stood := { row := fnLockedUptoRow, standIns := [], harness := (true, "953fbb034abf9c31bb50c9f8aca8c19778de9ea0b13e3033be8e996a36b93d88"), looks := true }, kinds := [], alts := [], laidByText := true, laidKinds := [.data, .data, .data, .data, .sentinel, .sentinel, .pinned], laidTests := true, laidLooks := .later }
def FnLockedUptoCardSaid : Prop := Claim7.holds Tryz.pinned (.plain (OpenSpec.upto fnLockedSpec)) fnLockedUptoCard
end Rows
end Go.Proofs.YtniakiefibpgmaaGreatDoor
