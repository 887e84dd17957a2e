/-
  DERIVED. GIVEN WITH THE SEED: THE CARDS: each row of YtneiifghegdfgaaDoorRows.lean that lists a variable, with what it lists TIED to the program's text (the seventh form; the later family's looks); each row that meets fmt, with fmt's text TOLD by the authors' own Lean function (tested against real Go, not proved from fmt's source: count such statements apart). THE CARD IS WHAT COUNTS. Prove the row's statement (the work); the ties are given (YtneiifghegdfgaaDoorTie.lean); close each card by the builder's one call (the guide's Derived/Test/ToyasCard.lean, 'card_holds'). Laid BY PROGRAM, IN A SANDBOX (cutbox-door.mjs). By AI agents, Wed Nov 11 2026. No macro, syntax, notation, axiom, sorry.
-/
import Derived.Test.YtneiifghegdfgaaDoorRows
import GoSem.ClaimSeven
namespace Go.Proofs.YtneiifghegdfgaaDoor
namespace Rows

/-- THE TIED CARD OF 'laws.FnExactParseDeed'. -/
def fnExactParseDeedCard : Claim7 := { stood := { row := fnExactParseDeedRow, standIns := [], harness := (true, "e6f0e7b9b574b48c479f7a68fdd436b3e9a5fd5fd74de52d3443f56e14f0f8d2"), looks := true }, kinds := [], alts := [], laidByText := true, laidKinds := [.data, .data, .data, .data, .sentinel, .sentinel, .pinned], laidTests := true, laidLooks := .later }
def FnExactParseDeedCardSaid : Prop := Claim7.holds Tryd.pinned (.plain (OpenSpec.ofChange fnExactParseDeedSpec)) fnExactParseDeedCard

/-- THE TIED CARD OF 'laws.FnLine'. -/
def fnLineCard : Claim7 := { stood := { row := fnLineRow, standIns := [], harness := (true, "e6f0e7b9b574b48c479f7a68fdd436b3e9a5fd5fd74de52d3443f56e14f0f8d2"), looks := true }, kinds := [], alts := [], laidByText := true, laidKinds := [.data, .data, .data, .data, .sentinel, .sentinel, .pinned], laidTests := true, laidLooks := .later }
def FnLineCardSaid : Prop := Claim7.holds Tryd.pinned (.plain (OpenSpec.ofChange fnLineSpec)) fnLineCard

/-- THE SECOND FORM's CARD OF 'laws.FnExactParseDeed'. -/
def fnExactParseDeedUptoCard : Claim7 := { stood := { row := fnExactParseDeedUptoRow, standIns := [], harness := (true, "e6f0e7b9b574b48c479f7a68fdd436b3e9a5fd5fd74de52d3443f56e14f0f8d2"), looks := true }, kinds := [], alts := [], laidByText := true, laidKinds := [.data, .data, .data, .data, .sentinel, .sentinel, .pinned], laidTests := true, laidLooks := .later }
def FnExactParseDeedUptoCardSaid : Prop := Claim7.holds Tryd.pinned (.plain (OpenSpec.upto fnExactParseDeedSpec)) fnExactParseDeedUptoCard

/-- THE SECOND FORM's CARD OF 'laws.FnLine'. -/
def fnLineUptoCard : Claim7 := { stood := { row := fnLineUptoRow, standIns := [], harness := (true, "e6f0e7b9b574b48c479f7a68fdd436b3e9a5fd5fd74de52d3443f56e14f0f8d2"), looks := true }, kinds := [], alts := [], laidByText := true, laidKinds := [.data, .data, .data, .data, .sentinel, .sentinel, .pinned], laidTests := true, laidLooks := .later }
def FnLineUptoCardSaid : Prop := Claim7.holds Tryd.pinned (.plain (OpenSpec.upto fnLineSpec)) fnLineUptoCard
end Rows
end Go.Proofs.YtneiifghegdfgaaDoor
