/-
  No cell of these rows narrows 'for every input' (looked for: loops, veiled, ifaces, maps, wideKeys, modest, calm, conditions, laid).
  DERIVED. THE GIVEN ROWS OF THIS SEAT. 10 by the template 'for every input the law returns true; each argument reads behind the call as it read before'; 0 by the template 'total and deterministic' (their statements: YthkahdjgkcccgaaTotals.lean).
  GIVEN WITH THE SEED: the statements are not yours to turn. If you find one false, say at which input.
  Laid BY PROGRAM, IN A SANDBOX (cutbox-rows.mjs): the forced cells as the released guide's own fill.sh prints them over the translation db284e32ee52f7aa… (all of the seat's roots in one cut). By AI agents, Wed Nov 11 2026. No macro, syntax, notation, axiom, sorry.
-/
import Derived.Test.YthkahdjgkcccgaaChecked
import GoSem.Claim
import GoSem.ClaimJoined
import GoSem.ClaimMapViews
import Derived.JoinedTies
import Derived.KernelRfl
namespace Go.Proofs.Ythkahdjgkcccgaa
/- THE CELL 'sum', in the pinned program and in every row, IS THE sha256 OF THE DUMP (.gsa) THAT YthkahdjgkcccgaaProg.lean LOADS. Nothing in Lean hashes anything: it is a label: what it is worth is what the hold of that sum in a sandbox is worth. -/
noncomputable def Try.pinned : Pinned := { name := "ythkahdjgkcccgaa", sum := "db284e32ee52f7aad58051561dcc7f06ea939a999eccb3607766a084859e7b13", checked := Try.checked }
namespace Rows
def none {H : Type} : Left H := { results := [], args := [] }

/-- 'laws.FnExactHeldPut': WHATEVER THE INPUT: true; the input reads as it did. -/
def fnExactHeldPutSpec : ChangeSpec := { name := "fnExactHeldPut", fn := fun _ => fun
  | [d1, d2, d3, d4] => { results := [.lit (.bool true)], args := [d1, d2, d3, d4] }
  | _ => none }
def fnExactHeldPutRow : OpenClaim := { program := "ythkahdjgkcccgaa", sum := "db284e32ee52f7aad58051561dcc7f06ea939a999eccb3607766a084859e7b13", func := "loop.example/g00106/laws.FnExactHeldPut", spec := "fnExactHeldPut", unfollowed := true, recurses := true, apart := false }
def FnExactHeldPutSaid : Prop := fnExactHeldPutRow.holds Try.pinned (OpenSpec.ofChange fnExactHeldPutSpec)

/-- ITS FALSE NEIGHBOUR: 'it returns false'. Refute it at one input. -/
def fnExactHeldPutWrong : ChangeSpec := { name := "fnExactHeldPut", fn := fun _ => fun
  | [d1, d2, d3, d4] => { results := [.lit (.bool false)], args := [d1, d2, d3, d4] }
  | _ => none }
def FnExactHeldPutWrongFalsely : Prop := fnExactHeldPutRow.holds Try.pinned (OpenSpec.ofChange fnExactHeldPutWrong)

/-- 'laws.FnHeldPut': WHATEVER THE INPUT: true; the input reads as it did. -/
def fnHeldPutSpec : ChangeSpec := { name := "fnHeldPut", fn := fun _ => fun
  | [d] => { results := [.lit (.bool true)], args := [d] }
  | _ => none }
def fnHeldPutRow : OpenClaim := { program := "ythkahdjgkcccgaa", sum := "db284e32ee52f7aad58051561dcc7f06ea939a999eccb3607766a084859e7b13", func := "loop.example/g00106/laws.FnHeldPut", spec := "fnHeldPut", unfollowed := true, recurses := true, apart := false }
def FnHeldPutSaid : Prop := fnHeldPutRow.holds Try.pinned (OpenSpec.ofChange fnHeldPutSpec)

/-- ITS FALSE NEIGHBOUR: 'it returns false'. Refute it at one input. -/
def fnHeldPutWrong : ChangeSpec := { name := "fnHeldPut", fn := fun _ => fun
  | [d] => { results := [.lit (.bool false)], args := [d] }
  | _ => none }
def FnHeldPutWrongFalsely : Prop := fnHeldPutRow.holds Try.pinned (OpenSpec.ofChange fnHeldPutWrong)

/-- 'laws.FnExactHeldNew': WHATEVER THE INPUT: true; the input reads as it did. -/
def fnExactHeldNewSpec : ChangeSpec := { name := "fnExactHeldNew", fn := fun _ => fun
  | [d1, d2, d3, d4] => { results := [.lit (.bool true)], args := [d1, d2, d3, d4] }
  | _ => none }
def fnExactHeldNewRow : OpenClaim := { program := "ythkahdjgkcccgaa", sum := "db284e32ee52f7aad58051561dcc7f06ea939a999eccb3607766a084859e7b13", func := "loop.example/g00106/laws.FnExactHeldNew", spec := "fnExactHeldNew", inPlace := ["slices.overlaps[loop.example/g00106/impl.Held]"], unfollowed := true, recurses := true, apart := false }
def FnExactHeldNewSaid : Prop := fnExactHeldNewRow.holds Try.pinned (OpenSpec.ofChange fnExactHeldNewSpec)

/-- ITS FALSE NEIGHBOUR: 'it returns false'. Refute it at one input. -/
def fnExactHeldNewWrong : ChangeSpec := { name := "fnExactHeldNew", fn := fun _ => fun
  | [d1, d2, d3, d4] => { results := [.lit (.bool false)], args := [d1, d2, d3, d4] }
  | _ => none }
def FnExactHeldNewWrongFalsely : Prop := fnExactHeldNewRow.holds Try.pinned (OpenSpec.ofChange fnExactHeldNewWrong)

/-- 'laws.FnTable': WHATEVER THE INPUT: true; the input reads as it did. -/
def fnTableSpec : ChangeSpec := { name := "fnTable", fn := fun _ => fun
  | [d] => { results := [.lit (.bool true)], args := [d] }
  | _ => none }
def fnTableRow : OpenClaim := { program := "ythkahdjgkcccgaa", sum := "db284e32ee52f7aad58051561dcc7f06ea939a999eccb3607766a084859e7b13", func := "loop.example/g00106/laws.FnTable", spec := "fnTable", apart := false }
def FnTableSaid : Prop := fnTableRow.holds Try.pinned (OpenSpec.ofChange fnTableSpec)

/-- ITS FALSE NEIGHBOUR: 'it returns false'. Refute it at one input. -/
def fnTableWrong : ChangeSpec := { name := "fnTable", fn := fun _ => fun
  | [d] => { results := [.lit (.bool false)], args := [d] }
  | _ => none }
def FnTableWrongFalsely : Prop := fnTableRow.holds Try.pinned (OpenSpec.ofChange fnTableWrong)

/-- 'laws.FnExactFleetNew': WHATEVER THE INPUT: true; the input reads as it did. -/
def fnExactFleetNewSpec : ChangeSpec := { name := "fnExactFleetNew", fn := fun _ => fun
  | [d] => { results := [.lit (.bool true)], args := [d] }
  | _ => none }
def fnExactFleetNewRow : OpenClaim := { program := "ythkahdjgkcccgaa", sum := "db284e32ee52f7aad58051561dcc7f06ea939a999eccb3607766a084859e7b13", func := "loop.example/g00106/laws.FnExactFleetNew", spec := "fnExactFleetNew", apart := false }
def FnExactFleetNewSaid : Prop := fnExactFleetNewRow.holds Try.pinned (OpenSpec.ofChange fnExactFleetNewSpec)

/-- ITS FALSE NEIGHBOUR: 'it returns false'. Refute it at one input. -/
def fnExactFleetNewWrong : ChangeSpec := { name := "fnExactFleetNew", fn := fun _ => fun
  | [d] => { results := [.lit (.bool false)], args := [d] }
  | _ => none }
def FnExactFleetNewWrongFalsely : Prop := fnExactFleetNewRow.holds Try.pinned (OpenSpec.ofChange fnExactFleetNewWrong)

/-- 'laws.FnExactRollApply': WHATEVER THE INPUT: true; the input reads as it did. -/
def fnExactRollApplySpec : ChangeSpec := { name := "fnExactRollApply", fn := fun _ => fun
  | [d1, d2] => { results := [.lit (.bool true)], args := [d1, d2] }
  | _ => none }
def fnExactRollApplyRow : OpenClaim := { program := "ythkahdjgkcccgaa", sum := "db284e32ee52f7aad58051561dcc7f06ea939a999eccb3607766a084859e7b13", func := "loop.example/g00106/laws.FnExactRollApply", spec := "fnExactRollApply", unfollowed := true, recurses := true, apart := false }
def FnExactRollApplySaid : Prop := fnExactRollApplyRow.holds Try.pinned (OpenSpec.ofChange fnExactRollApplySpec)

/-- ITS FALSE NEIGHBOUR: 'it returns false'. Refute it at one input. -/
def fnExactRollApplyWrong : ChangeSpec := { name := "fnExactRollApply", fn := fun _ => fun
  | [d1, d2] => { results := [.lit (.bool false)], args := [d1, d2] }
  | _ => none }
def FnExactRollApplyWrongFalsely : Prop := fnExactRollApplyRow.holds Try.pinned (OpenSpec.ofChange fnExactRollApplyWrong)

/-- 'laws.FnRollKeeps': WHATEVER THE INPUT: true; the input reads as it did. -/
def fnRollKeepsSpec : ChangeSpec := { name := "fnRollKeeps", fn := fun _ => fun
  | [d] => { results := [.lit (.bool true)], args := [d] }
  | _ => none }
def fnRollKeepsRow : OpenClaim := { program := "ythkahdjgkcccgaa", sum := "db284e32ee52f7aad58051561dcc7f06ea939a999eccb3607766a084859e7b13", func := "loop.example/g00106/laws.FnRollKeeps", spec := "fnRollKeeps", unfollowed := true, recurses := true, apart := false }
def FnRollKeepsSaid : Prop := fnRollKeepsRow.holds Try.pinned (OpenSpec.ofChange fnRollKeepsSpec)

/-- ITS FALSE NEIGHBOUR: 'it returns false'. Refute it at one input. -/
def fnRollKeepsWrong : ChangeSpec := { name := "fnRollKeeps", fn := fun _ => fun
  | [d] => { results := [.lit (.bool false)], args := [d] }
  | _ => none }
def FnRollKeepsWrongFalsely : Prop := fnRollKeepsRow.holds Try.pinned (OpenSpec.ofChange fnRollKeepsWrong)

/-- 'laws.FnRollRun': WHATEVER THE INPUT: true; the input reads as it did. -/
def fnRollRunSpec : ChangeSpec := { name := "fnRollRun", fn := fun _ => fun
  | [d] => { results := [.lit (.bool true)], args := [d] }
  | _ => none }
def fnRollRunRow : OpenClaim := { program := "ythkahdjgkcccgaa", sum := "db284e32ee52f7aad58051561dcc7f06ea939a999eccb3607766a084859e7b13", func := "loop.example/g00106/laws.FnRollRun", spec := "fnRollRun", unfollowed := true, recurses := true, apart := false }
def FnRollRunSaid : Prop := fnRollRunRow.holds Try.pinned (OpenSpec.ofChange fnRollRunSpec)

/-- ITS FALSE NEIGHBOUR: 'it returns false'. Refute it at one input. -/
def fnRollRunWrong : ChangeSpec := { name := "fnRollRun", fn := fun _ => fun
  | [d] => { results := [.lit (.bool false)], args := [d] }
  | _ => none }
def FnRollRunWrongFalsely : Prop := fnRollRunRow.holds Try.pinned (OpenSpec.ofChange fnRollRunWrong)

/-- 'laws.FnRoll': WHATEVER THE INPUT: true; the input reads as it did. -/
def fnRollSpec : ChangeSpec := { name := "fnRoll", fn := fun _ => fun
  | [d] => { results := [.lit (.bool true)], args := [d] }
  | _ => none }
def fnRollRow : OpenClaim := { program := "ythkahdjgkcccgaa", sum := "db284e32ee52f7aad58051561dcc7f06ea939a999eccb3607766a084859e7b13", func := "loop.example/g00106/laws.FnRoll", spec := "fnRoll", unfollowed := true, recurses := true, apart := false }
def FnRollSaid : Prop := fnRollRow.holds Try.pinned (OpenSpec.ofChange fnRollSpec)

/-- ITS FALSE NEIGHBOUR: 'it returns false'. Refute it at one input. -/
def fnRollWrong : ChangeSpec := { name := "fnRoll", fn := fun _ => fun
  | [d] => { results := [.lit (.bool false)], args := [d] }
  | _ => none }
def FnRollWrongFalsely : Prop := fnRollRow.holds Try.pinned (OpenSpec.ofChange fnRollWrong)

/-- 'laws.FnExactRollRun': WHATEVER THE INPUT: true; the input reads as it did. -/
def fnExactRollRunSpec : ChangeSpec := { name := "fnExactRollRun", fn := fun _ => fun
  | [d1, d2] => { results := [.lit (.bool true)], args := [d1, d2] }
  | _ => none }
def fnExactRollRunRow : OpenClaim := { program := "ythkahdjgkcccgaa", sum := "db284e32ee52f7aad58051561dcc7f06ea939a999eccb3607766a084859e7b13", func := "loop.example/g00106/laws.FnExactRollRun", spec := "fnExactRollRun", unfollowed := true, recurses := true, apart := false }
def FnExactRollRunSaid : Prop := fnExactRollRunRow.holds Try.pinned (OpenSpec.ofChange fnExactRollRunSpec)

/-- ITS FALSE NEIGHBOUR: 'it returns false'. Refute it at one input. -/
def fnExactRollRunWrong : ChangeSpec := { name := "fnExactRollRun", fn := fun _ => fun
  | [d1, d2] => { results := [.lit (.bool false)], args := [d1, d2] }
  | _ => none }
def FnExactRollRunWrongFalsely : Prop := fnExactRollRunRow.holds Try.pinned (OpenSpec.ofChange fnExactRollRunWrong)

/- THE SECOND FORM. 'bulk': how many values and letters a reading holds, each counted each time it is reached (what is shared counts as often as it is met; a slice's spare places count too). A statement '..UptoSaid' is the law's where the arguments, and the package variables that the reading takes, are together of bulk at most 1048576: NARROWER than '..Said'. Prove '..Said' where nothing that the law and all that it calls make is longer than what came in: it says more and counts as full. Else prove '..UptoSaid'. A law counts once. -/
mutual
def uptoBulk {H : Type} : DataW H → Nat
  | .lit (.string bytes) => bytes.length + 1
  | .lit _ => 1
  | .nil => 1
  | .ptr d => uptoBulk d + 1
  | .slice elems spare => uptoBulkAll elems + uptoBulkAll spare + 1
  | .agg parts => uptoBulkAll parts + 1
  | .iface _ d => uptoBulk d + 1
  | .map entries => uptoBulkEntries entries + 1
  | .held _ => 1
def uptoBulkAll {H : Type} : List (DataW H) → Nat
  | [] => 0
  | d :: r => uptoBulk d + uptoBulkAll r
def uptoBulkEntries {H : Type} : List (Lit × DataW H) → Nat
  | [] => 0
  | x :: r => uptoBulkEntry x + uptoBulkEntries r
def uptoBulkEntry {H : Type} : Lit × DataW H → Nat
  | (.string bytes, d) => bytes.length + uptoBulk d + 1
  | (_, d) => uptoBulk d + 1
 end
def uptoSmall : (H : Type) → List (DataW H) → Bool := fun _ ds => decide (uptoBulkAll ds ≤ 1048576)
def OpenSpec.upto (s : _root_.Go.ChangeSpec) : _root_.Go.OpenSpec := { _root_.Go.OpenSpec.ofChange s with cond := some uptoSmall }

/-- 'laws.FnExactHeldPut', WHERE WHAT IT READS IS OF BULK AT MOST 1048576: true; the input reads as it did. -/
def fnExactHeldPutUptoRow : OpenClaim := { program := "ythkahdjgkcccgaa", sum := "db284e32ee52f7aad58051561dcc7f06ea939a999eccb3607766a084859e7b13", func := "loop.example/g00106/laws.FnExactHeldPut", spec := "fnExactHeldPut", unfollowed := true, recurses := true, apart := false, narrowed := true }
def FnExactHeldPutUptoSaid : Prop := fnExactHeldPutUptoRow.holds Try.pinned (OpenSpec.upto fnExactHeldPutSpec)

/-- 'laws.FnHeldPut', WHERE WHAT IT READS IS OF BULK AT MOST 1048576: true; the input reads as it did. -/
def fnHeldPutUptoRow : OpenClaim := { program := "ythkahdjgkcccgaa", sum := "db284e32ee52f7aad58051561dcc7f06ea939a999eccb3607766a084859e7b13", func := "loop.example/g00106/laws.FnHeldPut", spec := "fnHeldPut", unfollowed := true, recurses := true, apart := false, narrowed := true }
def FnHeldPutUptoSaid : Prop := fnHeldPutUptoRow.holds Try.pinned (OpenSpec.upto fnHeldPutSpec)

/-- 'laws.FnExactHeldNew', WHERE WHAT IT READS IS OF BULK AT MOST 1048576: true; the input reads as it did. -/
def fnExactHeldNewUptoRow : OpenClaim := { program := "ythkahdjgkcccgaa", sum := "db284e32ee52f7aad58051561dcc7f06ea939a999eccb3607766a084859e7b13", func := "loop.example/g00106/laws.FnExactHeldNew", spec := "fnExactHeldNew", inPlace := ["slices.overlaps[loop.example/g00106/impl.Held]"], unfollowed := true, recurses := true, apart := false, narrowed := true }
def FnExactHeldNewUptoSaid : Prop := fnExactHeldNewUptoRow.holds Try.pinned (OpenSpec.upto fnExactHeldNewSpec)

/-- 'laws.FnTable', WHERE WHAT IT READS IS OF BULK AT MOST 1048576: true; the input reads as it did. -/
def fnTableUptoRow : OpenClaim := { program := "ythkahdjgkcccgaa", sum := "db284e32ee52f7aad58051561dcc7f06ea939a999eccb3607766a084859e7b13", func := "loop.example/g00106/laws.FnTable", spec := "fnTable", apart := false, narrowed := true }
def FnTableUptoSaid : Prop := fnTableUptoRow.holds Try.pinned (OpenSpec.upto fnTableSpec)

/-- 'laws.FnExactFleetNew', WHERE WHAT IT READS IS OF BULK AT MOST 1048576: true; the input reads as it did. -/
def fnExactFleetNewUptoRow : OpenClaim := { program := "ythkahdjgkcccgaa", sum := "db284e32ee52f7aad58051561dcc7f06ea939a999eccb3607766a084859e7b13", func := "loop.example/g00106/laws.FnExactFleetNew", spec := "fnExactFleetNew", apart := false, narrowed := true }
def FnExactFleetNewUptoSaid : Prop := fnExactFleetNewUptoRow.holds Try.pinned (OpenSpec.upto fnExactFleetNewSpec)

/-- 'laws.FnExactRollApply', WHERE WHAT IT READS IS OF BULK AT MOST 1048576: true; the input reads as it did. -/
def fnExactRollApplyUptoRow : OpenClaim := { program := "ythkahdjgkcccgaa", sum := "db284e32ee52f7aad58051561dcc7f06ea939a999eccb3607766a084859e7b13", func := "loop.example/g00106/laws.FnExactRollApply", spec := "fnExactRollApply", unfollowed := true, recurses := true, apart := false, narrowed := true }
def FnExactRollApplyUptoSaid : Prop := fnExactRollApplyUptoRow.holds Try.pinned (OpenSpec.upto fnExactRollApplySpec)

/-- 'laws.FnRollKeeps', WHERE WHAT IT READS IS OF BULK AT MOST 1048576: true; the input reads as it did. -/
def fnRollKeepsUptoRow : OpenClaim := { program := "ythkahdjgkcccgaa", sum := "db284e32ee52f7aad58051561dcc7f06ea939a999eccb3607766a084859e7b13", func := "loop.example/g00106/laws.FnRollKeeps", spec := "fnRollKeeps", unfollowed := true, recurses := true, apart := false, narrowed := true }
def FnRollKeepsUptoSaid : Prop := fnRollKeepsUptoRow.holds Try.pinned (OpenSpec.upto fnRollKeepsSpec)

/-- 'laws.FnRollRun', WHERE WHAT IT READS IS OF BULK AT MOST 1048576: true; the input reads as it did. -/
def fnRollRunUptoRow : OpenClaim := { program := "ythkahdjgkcccgaa", sum := "db284e32ee52f7aad58051561dcc7f06ea939a999eccb3607766a084859e7b13", func := "loop.example/g00106/laws.FnRollRun", spec := "fnRollRun", unfollowed := true, recurses := true, apart := false, narrowed := true }
def FnRollRunUptoSaid : Prop := fnRollRunUptoRow.holds Try.pinned (OpenSpec.upto fnRollRunSpec)

/-- 'laws.FnRoll', WHERE WHAT IT READS IS OF BULK AT MOST 1048576: true; the input reads as it did. -/
def fnRollUptoRow : OpenClaim := { program := "ythkahdjgkcccgaa", sum := "db284e32ee52f7aad58051561dcc7f06ea939a999eccb3607766a084859e7b13", func := "loop.example/g00106/laws.FnRoll", spec := "fnRoll", unfollowed := true, recurses := true, apart := false, narrowed := true }
def FnRollUptoSaid : Prop := fnRollUptoRow.holds Try.pinned (OpenSpec.upto fnRollSpec)

/-- 'laws.FnExactRollRun', WHERE WHAT IT READS IS OF BULK AT MOST 1048576: true; the input reads as it did. -/
def fnExactRollRunUptoRow : OpenClaim := { program := "ythkahdjgkcccgaa", sum := "db284e32ee52f7aad58051561dcc7f06ea939a999eccb3607766a084859e7b13", func := "loop.example/g00106/laws.FnExactRollRun", spec := "fnExactRollRun", unfollowed := true, recurses := true, apart := false, narrowed := true }
def FnExactRollRunUptoSaid : Prop := fnExactRollRunUptoRow.holds Try.pinned (OpenSpec.upto fnExactRollRunSpec)

end Rows
end Go.Proofs.Ythkahdjgkcccgaa
