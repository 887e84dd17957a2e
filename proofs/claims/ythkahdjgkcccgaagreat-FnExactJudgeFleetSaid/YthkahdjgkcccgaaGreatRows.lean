/-
  No cell of these rows narrows 'for every input' (looked for: loops, veiled, ifaces, maps, wideKeys, modest, calm, conditions, laid).
  DERIVED. THE GIVEN ROWS OF THIS SEAT. 2 by the template 'for every input the law returns true; each argument reads behind the call as it read before'; 0 by the template 'total and deterministic' (their statements: YthkahdjgkcccgaaGreatTotals.lean).
  GIVEN WITH THE SEED: the statements are not yours to turn. If you find one false, say at which input.
  Laid BY PROGRAM, IN A SANDBOX (cutbox-rows.mjs): the forced cells as the released guide's own fill.sh prints them over the translation 0109dfb1b28c88d2… (all of the seat's roots in one cut). By AI agents, Wed Nov 11 2026. No macro, syntax, notation, axiom, sorry.
-/
import Derived.Test.YthkahdjgkcccgaaGreatChecked
import GoSem.Claim
import GoSem.ClaimJoined
import GoSem.ClaimMapViews
import Derived.JoinedTies
import Derived.KernelRfl
namespace Go.Proofs.YthkahdjgkcccgaaGreat
/- THE CELL 'sum', in the pinned program and in every row, IS THE sha256 OF THE DUMP (.gsa) THAT YthkahdjgkcccgaaGreatProg.lean LOADS. Nothing in Lean hashes anything: it is a label: what it is worth is what the hold of that sum in a sandbox is worth. -/
noncomputable def Tryz.pinned : Pinned := { name := "ythkahdjgkcccgaagreat", sum := "0109dfb1b28c88d208fe4d0dc33c330da1507c1e721aa46208cc6af389cced7b", checked := Tryz.checked }
namespace Rows
def none {H : Type} : Left H := { results := [], args := [] }

/-- 'laws.FnExactJudgeRolls': WHATEVER THE INPUT: true; the input reads as it did. -/
def fnExactJudgeRollsSpec : ChangeSpec := { name := "fnExactJudgeRolls", fn := fun _ => fun
  | [d] => { results := [.lit (.bool true)], args := [d] }
  | _ => none }
def fnExactJudgeRollsRow : OpenClaim := { program := "ythkahdjgkcccgaagreat", sum := "0109dfb1b28c88d208fe4d0dc33c330da1507c1e721aa46208cc6af389cced7b", func := "loop.example/g00106/laws.FnExactJudgeRolls", spec := "fnExactJudgeRolls", unfollowed := true, recurses := true, apart := false }
def FnExactJudgeRollsSaid : Prop := fnExactJudgeRollsRow.holds Tryz.pinned (OpenSpec.ofChange fnExactJudgeRollsSpec)

/-- ITS FALSE NEIGHBOUR: 'it returns false'. Refute it at one input. -/
def fnExactJudgeRollsWrong : ChangeSpec := { name := "fnExactJudgeRolls", fn := fun _ => fun
  | [d] => { results := [.lit (.bool false)], args := [d] }
  | _ => none }
def FnExactJudgeRollsWrongFalsely : Prop := fnExactJudgeRollsRow.holds Tryz.pinned (OpenSpec.ofChange fnExactJudgeRollsWrong)

/-- 'laws.FnExactJudgeFleet': WHATEVER THE INPUT: true; the input reads as it did. -/
def fnExactJudgeFleetSpec : ChangeSpec := { name := "fnExactJudgeFleet", fn := fun _ => fun
  | [d] => { results := [.lit (.bool true)], args := [d] }
  | _ => none }
def fnExactJudgeFleetRow : OpenClaim := { program := "ythkahdjgkcccgaagreat", sum := "0109dfb1b28c88d208fe4d0dc33c330da1507c1e721aa46208cc6af389cced7b", func := "loop.example/g00106/laws.FnExactJudgeFleet", spec := "fnExactJudgeFleet", inPlace := ["internal/abi.NoEscape", "internal/bytealg.MakeNoZero"], unfollowed := true, recurses := true, apart := false }
def FnExactJudgeFleetSaid : Prop := fnExactJudgeFleetRow.holds Tryz.pinned (OpenSpec.ofChange fnExactJudgeFleetSpec)

/-- ITS FALSE NEIGHBOUR: 'it returns false'. Refute it at one input. -/
def fnExactJudgeFleetWrong : ChangeSpec := { name := "fnExactJudgeFleet", fn := fun _ => fun
  | [d] => { results := [.lit (.bool false)], args := [d] }
  | _ => none }
def FnExactJudgeFleetWrongFalsely : Prop := fnExactJudgeFleetRow.holds Tryz.pinned (OpenSpec.ofChange fnExactJudgeFleetWrong)

/- THE SECOND FORM. 'bulk': how many values and letters a reading holds, each counted each time it is reached (what is shared counts as often as it is met; a slice's spare places count too). A statement '..UptoSaid' is the law's where the arguments, and the package variables that the reading takes, are together of bulk at most 1048576: NARROWER than '..Said'. Prove '..Said' where nothing that the law and all that it calls make is longer than what came in: it says more and counts as full. Else prove '..UptoSaid'. A law counts once. -/
mutual
def uptoBulk {H : Type} : DataW H → Nat
  | .lit (.string bytes) => bytes.length + 1
  | .lit _ => 1
  | .nil => 1
  | .ptr d => uptoBulk d + 1
  | .slice elems spare => uptoBulkAll elems + uptoBulkAll spare + 1
  | .agg parts => uptoBulkAll parts + 1
  | .iface _ d => uptoBulk d + 1
  | .map entries => uptoBulkEntries entries + 1
  | .held _ => 1
def uptoBulkAll {H : Type} : List (DataW H) → Nat
  | [] => 0
  | d :: r => uptoBulk d + uptoBulkAll r
def uptoBulkEntries {H : Type} : List (Lit × DataW H) → Nat
  | [] => 0
  | x :: r => uptoBulkEntry x + uptoBulkEntries r
def uptoBulkEntry {H : Type} : Lit × DataW H → Nat
  | (.string bytes, d) => bytes.length + uptoBulk d + 1
  | (_, d) => uptoBulk d + 1
 end
def uptoSmall : (H : Type) → List (DataW H) → Bool := fun _ ds => decide (uptoBulkAll ds ≤ 1048576)
def OpenSpec.upto (s : _root_.Go.ChangeSpec) : _root_.Go.OpenSpec := { _root_.Go.OpenSpec.ofChange s with cond := some uptoSmall }

/-- 'laws.FnExactJudgeRolls', WHERE WHAT IT READS IS OF BULK AT MOST 1048576: true; the input reads as it did. -/
def fnExactJudgeRollsUptoRow : OpenClaim := { program := "ythkahdjgkcccgaagreat", sum := "0109dfb1b28c88d208fe4d0dc33c330da1507c1e721aa46208cc6af389cced7b", func := "loop.example/g00106/laws.FnExactJudgeRolls", spec := "fnExactJudgeRolls", unfollowed := true, recurses := true, apart := false, narrowed := true }
def FnExactJudgeRollsUptoSaid : Prop := fnExactJudgeRollsUptoRow.holds Tryz.pinned (OpenSpec.upto fnExactJudgeRollsSpec)

/-- 'laws.FnExactJudgeFleet', WHERE WHAT IT READS IS OF BULK AT MOST 1048576: true; the input reads as it did. -/
def fnExactJudgeFleetUptoRow : OpenClaim := { program := "ythkahdjgkcccgaagreat", sum := "0109dfb1b28c88d208fe4d0dc33c330da1507c1e721aa46208cc6af389cced7b", func := "loop.example/g00106/laws.FnExactJudgeFleet", spec := "fnExactJudgeFleet", inPlace := ["internal/abi.NoEscape", "internal/bytealg.MakeNoZero"], unfollowed := true, recurses := true, apart := false, narrowed := true }
def FnExactJudgeFleetUptoSaid : Prop := fnExactJudgeFleetUptoRow.holds Tryz.pinned (OpenSpec.upto fnExactJudgeFleetSpec)

end Rows
end Go.Proofs.YthkahdjgkcccgaaGreat
