/-
  DERIVED. GIVEN WITH THE SEED: THE CARDS: each row of YtdnclbghhdflmaaDoorRows.lean that lists a variable, with what it lists TIED to the program's text (the seventh form; the later family's looks); each row that meets fmt, with fmt's text TOLD by the authors' own Lean function (tested against real Go, not proved from fmt's source: count such statements apart). THE CARD IS WHAT COUNTS. Prove the row's statement (the work); the ties are given (YtdnclbghhdflmaaDoorTie.lean); close each card by the builder's one call (the guide's Derived/Test/ToyasCard.lean, 'card_holds'). Laid BY PROGRAM, IN A SANDBOX (cutbox-door.mjs). By AI agents, Wed Nov 11 2026. No macro, syntax, notation, axiom, sorry.
-/
import Derived.Test.YtdnclbghhdflmaaDoorRows
import GoSem.ClaimSeven
namespace Go.Proofs.YtdnclbghhdflmaaDoor
namespace Rows

/-- THE TIED CARD OF 'laws.FnExactTextOf'. -/
def fnExactTextOfCard : Claim7 := { stood := { row := fnExactTextOfRow, standIns := [], harness := (true, "d4f23c5777522b7bcdd6f720b12be74b4826068fde7ba34c3755b31c4bceaa88"), looks := true }, kinds := [], alts := [], laidByText := true, laidKinds := [.data, .data, .data], laidTests := true, laidLooks := .later }
def FnExactTextOfCardSaid : Prop := Claim7.holds Tryd.pinned (.plain (OpenSpec.ofChange fnExactTextOfSpec)) fnExactTextOfCard

/-- THE TIED CARD OF 'laws.FnExactDeedLine'. -/
def fnExactDeedLineCard : Claim7 := { stood := { row := fnExactDeedLineRow, standIns := [], harness := (true, "d4f23c5777522b7bcdd6f720b12be74b4826068fde7ba34c3755b31c4bceaa88"), looks := true }, kinds := [], alts := [], laidByText := true, laidKinds := [.data, .data, .data], laidTests := true, laidLooks := .later }
def FnExactDeedLineCardSaid : Prop := Claim7.holds Tryd.pinned (.plain (OpenSpec.ofChange fnExactDeedLineSpec)) fnExactDeedLineCard

/-- THE TIED CARD OF 'laws.FnExactNumOf'. -/
def fnExactNumOfCard : Claim7 := { stood := { row := fnExactNumOfRow, standIns := [], harness := (true, "d4f23c5777522b7bcdd6f720b12be74b4826068fde7ba34c3755b31c4bceaa88"), looks := true }, kinds := [], alts := [], laidByText := true, laidKinds := [.data, .data, .data, .sentinel, .sentinel], laidTests := true, laidLooks := .later }
def FnExactNumOfCardSaid : Prop := Claim7.holds Tryd.pinned (.plain (OpenSpec.ofChange fnExactNumOfSpec)) fnExactNumOfCard

/-- THE SECOND FORM's CARD OF 'laws.FnExactTextOf'. -/
def fnExactTextOfUptoCard : Claim7 := { stood := { row := fnExactTextOfUptoRow, standIns := [], harness := (true, "d4f23c5777522b7bcdd6f720b12be74b4826068fde7ba34c3755b31c4bceaa88"), looks := true }, kinds := [], alts := [], laidByText := true, laidKinds := [.data, .data, .data], laidTests := true, laidLooks := .later }
def FnExactTextOfUptoCardSaid : Prop := Claim7.holds Tryd.pinned (.plain (OpenSpec.upto fnExactTextOfSpec)) fnExactTextOfUptoCard

/-- THE SECOND FORM's CARD OF 'laws.FnExactDeedLine'. -/
def fnExactDeedLineUptoCard : Claim7 := { stood := { row := fnExactDeedLineUptoRow, standIns := [], harness := (true, "d4f23c5777522b7bcdd6f720b12be74b4826068fde7ba34c3755b31c4bceaa88"), looks := true }, kinds := [], alts := [], laidByText := true, laidKinds := [.data, .data, .data], laidTests := true, laidLooks := .later }
def FnExactDeedLineUptoCardSaid : Prop := Claim7.holds Tryd.pinned (.plain (OpenSpec.upto fnExactDeedLineSpec)) fnExactDeedLineUptoCard

/-- THE SECOND FORM's CARD OF 'laws.FnExactNumOf'. -/
def fnExactNumOfUptoCard : Claim7 := { stood := { row := fnExactNumOfUptoRow, standIns := [], harness := (true, "d4f23c5777522b7bcdd6f720b12be74b4826068fde7ba34c3755b31c4bceaa88"), looks := true }, kinds := [], alts := [], laidByText := true, laidKinds := [.data, .data, .data, .sentinel, .sentinel], laidTests := true, laidLooks := .later }
def FnExactNumOfUptoCardSaid : Prop := Claim7.holds Tryd.pinned (.plain (OpenSpec.upto fnExactNumOfSpec)) fnExactNumOfUptoCard
end Rows
end Go.Proofs.YtdnclbghhdflmaaDoor
