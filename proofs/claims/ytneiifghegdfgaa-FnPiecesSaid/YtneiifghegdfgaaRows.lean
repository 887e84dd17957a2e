/-
  No cell of these rows narrows 'for every input' (looked for: loops, veiled, ifaces, maps, wideKeys, modest, calm, conditions, laid).
  DERIVED. THE GIVEN ROWS OF THIS SEAT. 7 by the template 'for every input the law returns true; each argument reads behind the call as it read before'; 0 by the template 'total and deterministic' (their statements: YtneiifghegdfgaaTotals.lean).
  GIVEN WITH THE SEED: the statements are not yours to turn. If you find one false, say at which input.
  Laid BY PROGRAM, IN A SANDBOX (cutbox-rows.mjs): the forced cells as the released guide's own fill.sh prints them over the translation 41fe06426e5a5e4d… (all of the seat's roots in one cut). By AI agents, Wed Nov 11 2026. No macro, syntax, notation, axiom, sorry.
-/
import Derived.Test.YtneiifghegdfgaaChecked
import GoSem.Claim
import GoSem.ClaimJoined
import GoSem.ClaimMapViews
import Derived.JoinedTies
import Derived.KernelRfl
namespace Go.Proofs.Ytneiifghegdfgaa
/- THE CELL 'sum', in the pinned program and in every row, IS THE sha256 OF THE DUMP (.gsa) THAT YtneiifghegdfgaaProg.lean LOADS. Nothing in Lean hashes anything: it is a label: what it is worth is what the hold of that sum in a sandbox is worth. -/
noncomputable def Try.pinned : Pinned := { name := "ytneiifghegdfgaa", sum := "41fe06426e5a5e4d22e4190d29d10a4d94a43439146fcc41728cbd7b2b27f393", checked := Try.checked }
namespace Rows
def none {H : Type} : Left H := { results := [], args := [] }

/-- 'laws.FnExactHeldNew': WHATEVER THE INPUT: true; the input reads as it did. -/
def fnExactHeldNewSpec : ChangeSpec := { name := "fnExactHeldNew", fn := fun _ => fun
  | [d1, d2, d3, d4] => { results := [.lit (.bool true)], args := [d1, d2, d3, d4] }
  | _ => none }
def fnExactHeldNewRow : OpenClaim := { program := "ytneiifghegdfgaa", sum := "41fe06426e5a5e4d22e4190d29d10a4d94a43439146fcc41728cbd7b2b27f393", func := "loop.example/g00106/laws.FnExactHeldNew", spec := "fnExactHeldNew", inPlace := ["slices.overlaps[loop.example/g00106/impl.Held]"], unfollowed := true, recurses := true, apart := false }
def FnExactHeldNewSaid : Prop := fnExactHeldNewRow.holds Try.pinned (OpenSpec.ofChange fnExactHeldNewSpec)

/-- ITS FALSE NEIGHBOUR: 'it returns false'. Refute it at one input. -/
def fnExactHeldNewWrong : ChangeSpec := { name := "fnExactHeldNew", fn := fun _ => fun
  | [d1, d2, d3, d4] => { results := [.lit (.bool false)], args := [d1, d2, d3, d4] }
  | _ => none }
def FnExactHeldNewWrongFalsely : Prop := fnExactHeldNewRow.holds Try.pinned (OpenSpec.ofChange fnExactHeldNewWrong)

/-- 'laws.FnTable': WHATEVER THE INPUT: true; the input reads as it did. -/
def fnTableSpec : ChangeSpec := { name := "fnTable", fn := fun _ => fun
  | [d] => { results := [.lit (.bool true)], args := [d] }
  | _ => none }
def fnTableRow : OpenClaim := { program := "ytneiifghegdfgaa", sum := "41fe06426e5a5e4d22e4190d29d10a4d94a43439146fcc41728cbd7b2b27f393", func := "loop.example/g00106/laws.FnTable", spec := "fnTable", apart := false }
def FnTableSaid : Prop := fnTableRow.holds Try.pinned (OpenSpec.ofChange fnTableSpec)

/-- ITS FALSE NEIGHBOUR: 'it returns false'. Refute it at one input. -/
def fnTableWrong : ChangeSpec := { name := "fnTable", fn := fun _ => fun
  | [d] => { results := [.lit (.bool false)], args := [d] }
  | _ => none }
def FnTableWrongFalsely : Prop := fnTableRow.holds Try.pinned (OpenSpec.ofChange fnTableWrong)

/-- 'laws.FnZones': WHATEVER THE INPUT: true; the input reads as it did. -/
def fnZonesSpec : ChangeSpec := { name := "fnZones", fn := fun _ => fun
  | [d] => { results := [.lit (.bool true)], args := [d] }
  | _ => none }
def fnZonesRow : OpenClaim := { program := "ytneiifghegdfgaa", sum := "41fe06426e5a5e4d22e4190d29d10a4d94a43439146fcc41728cbd7b2b27f393", func := "loop.example/g00106/laws.FnZones", spec := "fnZones", unfollowed := true, recurses := true, apart := false }
def FnZonesSaid : Prop := fnZonesRow.holds Try.pinned (OpenSpec.ofChange fnZonesSpec)

/-- ITS FALSE NEIGHBOUR: 'it returns false'. Refute it at one input. -/
def fnZonesWrong : ChangeSpec := { name := "fnZones", fn := fun _ => fun
  | [d] => { results := [.lit (.bool false)], args := [d] }
  | _ => none }
def FnZonesWrongFalsely : Prop := fnZonesRow.holds Try.pinned (OpenSpec.ofChange fnZonesWrong)

/-- 'laws.FnClocks': WHATEVER THE INPUT: true; the input reads as it did. -/
def fnClocksSpec : ChangeSpec := { name := "fnClocks", fn := fun _ => fun
  | [d] => { results := [.lit (.bool true)], args := [d] }
  | _ => none }
def fnClocksRow : OpenClaim := { program := "ytneiifghegdfgaa", sum := "41fe06426e5a5e4d22e4190d29d10a4d94a43439146fcc41728cbd7b2b27f393", func := "loop.example/g00106/laws.FnClocks", spec := "fnClocks", unfollowed := true, recurses := true, apart := false }
def FnClocksSaid : Prop := fnClocksRow.holds Try.pinned (OpenSpec.ofChange fnClocksSpec)

/-- ITS FALSE NEIGHBOUR: 'it returns false'. Refute it at one input. -/
def fnClocksWrong : ChangeSpec := { name := "fnClocks", fn := fun _ => fun
  | [d] => { results := [.lit (.bool false)], args := [d] }
  | _ => none }
def FnClocksWrongFalsely : Prop := fnClocksRow.holds Try.pinned (OpenSpec.ofChange fnClocksWrong)

/-- 'laws.FnPieces': WHATEVER THE INPUT: true; the input reads as it did. -/
def fnPiecesSpec : ChangeSpec := { name := "fnPieces", fn := fun _ => fun
  | [d] => { results := [.lit (.bool true)], args := [d] }
  | _ => none }
def fnPiecesRow : OpenClaim := { program := "ytneiifghegdfgaa", sum := "41fe06426e5a5e4d22e4190d29d10a4d94a43439146fcc41728cbd7b2b27f393", func := "loop.example/g00106/laws.FnPieces", spec := "fnPieces", inPlace := ["slices.overlaps[loop.example/g00106/impl.Held]"], unfollowed := true, recurses := true, apart := false }
def FnPiecesSaid : Prop := fnPiecesRow.holds Try.pinned (OpenSpec.ofChange fnPiecesSpec)

/-- ITS FALSE NEIGHBOUR: 'it returns false'. Refute it at one input. -/
def fnPiecesWrong : ChangeSpec := { name := "fnPieces", fn := fun _ => fun
  | [d] => { results := [.lit (.bool false)], args := [d] }
  | _ => none }
def FnPiecesWrongFalsely : Prop := fnPiecesRow.holds Try.pinned (OpenSpec.ofChange fnPiecesWrong)

/-- 'laws.FnExactZoneTable': WHATEVER THE INPUT: true; the input reads as it did. -/
def fnExactZoneTableSpec : ChangeSpec := { name := "fnExactZoneTable", fn := fun _ => fun
  | [d1, d2] => { results := [.lit (.bool true)], args := [d1, d2] }
  | _ => none }
def fnExactZoneTableRow : OpenClaim := { program := "ytneiifghegdfgaa", sum := "41fe06426e5a5e4d22e4190d29d10a4d94a43439146fcc41728cbd7b2b27f393", func := "loop.example/g00106/laws.FnExactZoneTable", spec := "fnExactZoneTable", unfollowed := true, recurses := true, apart := false }
def FnExactZoneTableSaid : Prop := fnExactZoneTableRow.holds Try.pinned (OpenSpec.ofChange fnExactZoneTableSpec)

/-- ITS FALSE NEIGHBOUR: 'it returns false'. Refute it at one input. -/
def fnExactZoneTableWrong : ChangeSpec := { name := "fnExactZoneTable", fn := fun _ => fun
  | [d1, d2] => { results := [.lit (.bool false)], args := [d1, d2] }
  | _ => none }
def FnExactZoneTableWrongFalsely : Prop := fnExactZoneTableRow.holds Try.pinned (OpenSpec.ofChange fnExactZoneTableWrong)

/-- 'laws.FnExactHeldLoad': WHATEVER THE INPUT: true; the input reads as it did. -/
def fnExactHeldLoadSpec : ChangeSpec := { name := "fnExactHeldLoad", fn := fun _ => fun
  | [d] => { results := [.lit (.bool true)], args := [d] }
  | _ => none }
def fnExactHeldLoadRow : OpenClaim := { program := "ytneiifghegdfgaa", sum := "41fe06426e5a5e4d22e4190d29d10a4d94a43439146fcc41728cbd7b2b27f393", func := "loop.example/g00106/laws.FnExactHeldLoad", spec := "fnExactHeldLoad", inPlace := ["slices.overlaps[loop.example/g00106/impl.Held]"], unfollowed := true, recurses := true, apart := false }
def FnExactHeldLoadSaid : Prop := fnExactHeldLoadRow.holds Try.pinned (OpenSpec.ofChange fnExactHeldLoadSpec)

/-- ITS FALSE NEIGHBOUR: 'it returns false'. Refute it at one input. -/
def fnExactHeldLoadWrong : ChangeSpec := { name := "fnExactHeldLoad", fn := fun _ => fun
  | [d] => { results := [.lit (.bool false)], args := [d] }
  | _ => none }
def FnExactHeldLoadWrongFalsely : Prop := fnExactHeldLoadRow.holds Try.pinned (OpenSpec.ofChange fnExactHeldLoadWrong)

/- THE SECOND FORM. 'bulk': how many values and letters a reading holds, each counted each time it is reached (what is shared counts as often as it is met; a slice's spare places count too). A statement '..UptoSaid' is the law's where the arguments, and the package variables that the reading takes, are together of bulk at most 1048576: NARROWER than '..Said'. Prove '..Said' where nothing that the law and all that it calls make is longer than what came in: it says more and counts as full. Else prove '..UptoSaid'. A law counts once. -/
mutual
def uptoBulk {H : Type} : DataW H → Nat
  | .lit (.string bytes) => bytes.length + 1
  | .lit _ => 1
  | .nil => 1
  | .ptr d => uptoBulk d + 1
  | .slice elems spare => uptoBulkAll elems + uptoBulkAll spare + 1
  | .agg parts => uptoBulkAll parts + 1
  | .iface _ d => uptoBulk d + 1
  | .map entries => uptoBulkEntries entries + 1
  | .held _ => 1
def uptoBulkAll {H : Type} : List (DataW H) → Nat
  | [] => 0
  | d :: r => uptoBulk d + uptoBulkAll r
def uptoBulkEntries {H : Type} : List (Lit × DataW H) → Nat
  | [] => 0
  | x :: r => uptoBulkEntry x + uptoBulkEntries r
def uptoBulkEntry {H : Type} : Lit × DataW H → Nat
  | (.string bytes, d) => bytes.length + uptoBulk d + 1
  | (_, d) => uptoBulk d + 1
 end
def uptoSmall : (H : Type) → List (DataW H) → Bool := fun _ ds => decide (uptoBulkAll ds ≤ 1048576)
def OpenSpec.upto (s : _root_.Go.ChangeSpec) : _root_.Go.OpenSpec := { _root_.Go.OpenSpec.ofChange s with cond := some uptoSmall }

/-- 'laws.FnExactHeldNew', WHERE WHAT IT READS IS OF BULK AT MOST 1048576: true; the input reads as it did. -/
def fnExactHeldNewUptoRow : OpenClaim := { program := "ytneiifghegdfgaa", sum := "41fe06426e5a5e4d22e4190d29d10a4d94a43439146fcc41728cbd7b2b27f393", func := "loop.example/g00106/laws.FnExactHeldNew", spec := "fnExactHeldNew", inPlace := ["slices.overlaps[loop.example/g00106/impl.Held]"], unfollowed := true, recurses := true, apart := false, narrowed := true }
def FnExactHeldNewUptoSaid : Prop := fnExactHeldNewUptoRow.holds Try.pinned (OpenSpec.upto fnExactHeldNewSpec)

/-- 'laws.FnTable', WHERE WHAT IT READS IS OF BULK AT MOST 1048576: true; the input reads as it did. -/
def fnTableUptoRow : OpenClaim := { program := "ytneiifghegdfgaa", sum := "41fe06426e5a5e4d22e4190d29d10a4d94a43439146fcc41728cbd7b2b27f393", func := "loop.example/g00106/laws.FnTable", spec := "fnTable", apart := false, narrowed := true }
def FnTableUptoSaid : Prop := fnTableUptoRow.holds Try.pinned (OpenSpec.upto fnTableSpec)

/-- 'laws.FnZones', WHERE WHAT IT READS IS OF BULK AT MOST 1048576: true; the input reads as it did. -/
def fnZonesUptoRow : OpenClaim := { program := "ytneiifghegdfgaa", sum := "41fe06426e5a5e4d22e4190d29d10a4d94a43439146fcc41728cbd7b2b27f393", func := "loop.example/g00106/laws.FnZones", spec := "fnZones", unfollowed := true, recurses := true, apart := false, narrowed := true }
def FnZonesUptoSaid : Prop := fnZonesUptoRow.holds Try.pinned (OpenSpec.upto fnZonesSpec)

/-- 'laws.FnClocks', WHERE WHAT IT READS IS OF BULK AT MOST 1048576: true; the input reads as it did. -/
def fnClocksUptoRow : OpenClaim := { program := "ytneiifghegdfgaa", sum := "41fe06426e5a5e4d22e4190d29d10a4d94a43439146fcc41728cbd7b2b27f393", func := "loop.example/g00106/laws.FnClocks", spec := "fnClocks", unfollowed := true, recurses := true, apart := false, narrowed := true }
def FnClocksUptoSaid : Prop := fnClocksUptoRow.holds Try.pinned (OpenSpec.upto fnClocksSpec)

/-- 'laws.FnPieces', WHERE WHAT IT READS IS OF BULK AT MOST 1048576: true; the input reads as it did. -/
def fnPiecesUptoRow : OpenClaim := { program := "ytneiifghegdfgaa", sum := "41fe06426e5a5e4d22e4190d29d10a4d94a43439146fcc41728cbd7b2b27f393", func := "loop.example/g00106/laws.FnPieces", spec := "fnPieces", inPlace := ["slices.overlaps[loop.example/g00106/impl.Held]"], unfollowed := true, recurses := true, apart := false, narrowed := true }
def FnPiecesUptoSaid : Prop := fnPiecesUptoRow.holds Try.pinned (OpenSpec.upto fnPiecesSpec)

/-- 'laws.FnExactZoneTable', WHERE WHAT IT READS IS OF BULK AT MOST 1048576: true; the input reads as it did. -/
def fnExactZoneTableUptoRow : OpenClaim := { program := "ytneiifghegdfgaa", sum := "41fe06426e5a5e4d22e4190d29d10a4d94a43439146fcc41728cbd7b2b27f393", func := "loop.example/g00106/laws.FnExactZoneTable", spec := "fnExactZoneTable", unfollowed := true, recurses := true, apart := false, narrowed := true }
def FnExactZoneTableUptoSaid : Prop := fnExactZoneTableUptoRow.holds Try.pinned (OpenSpec.upto fnExactZoneTableSpec)

/-- 'laws.FnExactHeldLoad', WHERE WHAT IT READS IS OF BULK AT MOST 1048576: true; the input reads as it did. -/
def fnExactHeldLoadUptoRow : OpenClaim := { program := "ytneiifghegdfgaa", sum := "41fe06426e5a5e4d22e4190d29d10a4d94a43439146fcc41728cbd7b2b27f393", func := "loop.example/g00106/laws.FnExactHeldLoad", spec := "fnExactHeldLoad", inPlace := ["slices.overlaps[loop.example/g00106/impl.Held]"], unfollowed := true, recurses := true, apart := false, narrowed := true }
def FnExactHeldLoadUptoSaid : Prop := fnExactHeldLoadUptoRow.holds Try.pinned (OpenSpec.upto fnExactHeldLoadSpec)

end Rows
end Go.Proofs.Ytneiifghegdfgaa
