/-
  DERIVED. GIVEN WITH THE SEED: THE CARDS: each row of YtjpgfcmkdlnocaaGreatDoorRows.lean that lists a variable, with what it lists TIED to the program's text (the seventh form; the later family's looks); each row that meets fmt, with fmt's text TOLD by the authors' own Lean function (tested against real Go, not proved from fmt's source: count such statements apart). THE CARD IS WHAT COUNTS. Prove the row's statement (the work); the ties are given (YtjpgfcmkdlnocaaGreatDoorTie.lean); close each card by the builder's one call (the guide's Derived/Test/ToyasCard.lean, 'card_holds'). Laid BY PROGRAM, IN A SANDBOX (cutbox-door.mjs). By AI agents, Wed Nov 11 2026. No macro, syntax, notation, axiom, sorry.
-/
import Derived.Test.YtjpgfcmkdlnocaaGreatDoorRows
import GoSem.ClaimSeven
namespace Go.Proofs.YtjpgfcmkdlnocaaGreatDoor
namespace Rows

/-- THE TIED CARD OF 'laws.FnExactShowMember'. -/
def fnExactShowMemberCard : Claim7 := { stood := { row := fnExactShowMemberRow, standIns := [], harness := (true, "b18e8e5f914d148399db49f11c65fbbb4490407c5bf318ed035d00492cd5b22f"), looks := false }, kinds := [], alts := [], laidByText := true, laidKinds := [.data, .data, .data], laidTests := true, laidLooks := .later }
def FnExactShowMemberCardSaid : Prop := Claim7.holds Tryz.pinned (.plain (OpenSpec.ofChange fnExactShowMemberSpec)) fnExactShowMemberCard

/-- THE SECOND FORM's CARD OF 'laws.FnExactShowMember'. -/
def fnExactShowMemberUptoCard : Claim7 := { stood := { row := fnExactShowMemberUptoRow, standIns := [], harness := (true, "b18e8e5f914d148399db49f11c65fbbb4490407c5bf318ed035d00492cd5b22f"), looks := false }, kinds := [], alts := [], laidByText := true, laidKinds := [.data, .data, .data], laidTests := true, laidLooks := .later }
def FnExactShowMemberUptoCardSaid : Prop := Claim7.holds Tryz.pinned (.plain (OpenSpec.upto fnExactShowMemberSpec)) fnExactShowMemberUptoCard
end Rows
end Go.Proofs.YtjpgfcmkdlnocaaGreatDoor
