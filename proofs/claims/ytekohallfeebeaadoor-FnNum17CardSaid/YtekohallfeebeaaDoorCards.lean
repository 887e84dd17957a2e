/-
  DERIVED. GIVEN WITH THE SEED: THE CARDS: each row of YtekohallfeebeaaDoorRows.lean that lists a variable, with what it lists TIED to the program's text (the seventh form; the later family's looks); each row that meets fmt, with fmt's text TOLD by the authors' own Lean function (tested against real Go, not proved from fmt's source: count such statements apart). THE CARD IS WHAT COUNTS. Prove the row's statement (the work); the ties are given (YtekohallfeebeaaDoorTie.lean); close each card by the builder's one call (the guide's Derived/Test/ToyasCard.lean, 'card_holds'). Laid BY PROGRAM, IN A SANDBOX (cutbox-door.mjs). By AI agents, Wed Nov 11 2026. No macro, syntax, notation, axiom, sorry.
-/
import Derived.Test.YtekohallfeebeaaDoorRows
import GoSem.ClaimSeven
namespace Go.Proofs.YtekohallfeebeaaDoor
namespace Rows

/-- THE TIED CARD OF 'laws.FnNum17'. -/
def fnNum17Card : Claim7 := { stood := { row := fnNum17Row, standIns := [], harness := (true, "1844a568e55672347546778058e20c87e011b4c802eb90ed110ed262115b9a5a"), looks := true }, kinds := [], alts := [], laidByText := true, laidKinds := [.data, .data, .data, .sentinel, .sentinel], laidTests := true, laidLooks := .later }
def FnNum17CardSaid : Prop := Claim7.holds Tryd.pinned (.plain (OpenSpec.ofChange fnNum17Spec)) fnNum17Card

/-- THE TIED CARD OF 'laws.FnExactParseDeed'. -/
def fnExactParseDeedCard : Claim7 := { stood := { row := fnExactParseDeedRow, standIns := [], harness := (true, "1844a568e55672347546778058e20c87e011b4c802eb90ed110ed262115b9a5a"), looks := true }, kinds := [], alts := [], laidByText := true, laidKinds := [.data, .data, .data, .data, .sentinel, .sentinel, .pinned], laidTests := true, laidLooks := .later }
def FnExactParseDeedCardSaid : Prop := Claim7.holds Tryd.pinned (.plain (OpenSpec.ofChange fnExactParseDeedSpec)) fnExactParseDeedCard

/-- THE TIED CARD OF 'laws.FnLine'. -/
def fnLineCard : Claim7 := { stood := { row := fnLineRow, standIns := [], harness := (true, "1844a568e55672347546778058e20c87e011b4c802eb90ed110ed262115b9a5a"), looks := true }, kinds := [], alts := [], laidByText := true, laidKinds := [.data, .data, .data, .data, .sentinel, .sentinel, .pinned], laidTests := true, laidLooks := .later }
def FnLineCardSaid : Prop := Claim7.holds Tryd.pinned (.plain (OpenSpec.ofChange fnLineSpec)) fnLineCard

/-- THE SECOND FORM's CARD OF 'laws.FnNum17'. -/
def fnNum17UptoCard : Claim7 := { stood := { row := fnNum17UptoRow, standIns := [], harness := (true, "1844a568e55672347546778058e20c87e011b4c802eb90ed110ed262115b9a5a"), looks := true }, kinds := [], alts := [], laidByText := true, laidKinds := [.data, .data, .data, .sentinel, .sentinel], laidTests := true, laidLooks := .later }
def FnNum17UptoCardSaid : Prop := Claim7.holds Tryd.pinned (.plain (OpenSpec.upto fnNum17Spec)) fnNum17UptoCard

/-- THE SECOND FORM's CARD OF 'laws.FnExactParseDeed'. -/
def fnExactParseDeedUptoCard : Claim7 := { stood := { row := fnExactParseDeedUptoRow, standIns := [], harness := (true, "1844a568e55672347546778058e20c87e011b4c802eb90ed110ed262115b9a5a"), looks := true }, kinds := [], alts := [], laidByText := true, laidKinds := [.data, .data, .data, .data, .sentinel, .sentinel, .pinned], laidTests := true, laidLooks := .later }
def FnExactParseDeedUptoCardSaid : Prop := Claim7.holds Tryd.pinned (.plain (OpenSpec.upto fnExactParseDeedSpec)) fnExactParseDeedUptoCard

/-- THE SECOND FORM's CARD OF 'laws.FnLine'. -/
def fnLineUptoCard : Claim7 := { stood := { row := fnLineUptoRow, standIns := [], harness := (true, "1844a568e55672347546778058e20c87e011b4c802eb90ed110ed262115b9a5a"), looks := true }, kinds := [], alts := [], laidByText := true, laidKinds := [.data, .data, .data, .data, .sentinel, .sentinel, .pinned], laidTests := true, laidLooks := .later }
def FnLineUptoCardSaid : Prop := Claim7.holds Tryd.pinned (.plain (OpenSpec.upto fnLineSpec)) fnLineUptoCard
end Rows
end Go.Proofs.YtekohallfeebeaaDoor
