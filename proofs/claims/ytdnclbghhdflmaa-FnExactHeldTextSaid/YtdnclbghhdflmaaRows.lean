/-
  No cell of these rows narrows 'for every input' (looked for: loops, veiled, ifaces, maps, wideKeys, modest, calm, conditions, laid).
  DERIVED. THE GIVEN ROWS OF THIS SEAT. 8 by the template 'for every input the law returns true; each argument reads behind the call as it read before'; 0 by the template 'total and deterministic' (their statements: YtdnclbghhdflmaaTotals.lean).
  GIVEN WITH THE SEED: the statements are not yours to turn. If you find one false, say at which input.
  Laid BY PROGRAM, IN A SANDBOX (cutbox-rows.mjs): the forced cells as the released guide's own fill.sh prints them over the translation 0c4cdcc05acee58a… (all of the seat's roots in one cut). By AI agents, Wed Nov 11 2026. No macro, syntax, notation, axiom, sorry.
-/
import Derived.Test.YtdnclbghhdflmaaChecked
import GoSem.Claim
import GoSem.ClaimJoined
import GoSem.ClaimMapViews
import Derived.JoinedTies
import Derived.KernelRfl
namespace Go.Proofs.Ytdnclbghhdflmaa
/- THE CELL 'sum', in the pinned program and in every row, IS THE sha256 OF THE DUMP (.gsa) THAT YtdnclbghhdflmaaProg.lean LOADS. Nothing in Lean hashes anything: it is a label: what it is worth is what the hold of that sum in a sandbox is worth. -/
noncomputable def Try.pinned : Pinned := { name := "ytdnclbghhdflmaa", sum := "0c4cdcc05acee58a0361605d2ea48096d6a9e79d15efdb527cc76f39e204040c", checked := Try.checked }
namespace Rows
def none {H : Type} : Left H := { results := [], args := [] }

/-- 'laws.FnExactPiecePut': WHATEVER THE INPUT: true; the input reads as it did. -/
def fnExactPiecePutSpec : ChangeSpec := { name := "fnExactPiecePut", fn := fun _ => fun
  | [d1, d2, d3] => { results := [.lit (.bool true)], args := [d1, d2, d3] }
  | _ => none }
def fnExactPiecePutRow : OpenClaim := { program := "ytdnclbghhdflmaa", sum := "0c4cdcc05acee58a0361605d2ea48096d6a9e79d15efdb527cc76f39e204040c", func := "loop.example/g00106/laws.FnExactPiecePut", spec := "fnExactPiecePut", apart := false }
def FnExactPiecePutSaid : Prop := fnExactPiecePutRow.holds Try.pinned (OpenSpec.ofChange fnExactPiecePutSpec)

/-- ITS FALSE NEIGHBOUR: 'it returns false'. Refute it at one input. -/
def fnExactPiecePutWrong : ChangeSpec := { name := "fnExactPiecePut", fn := fun _ => fun
  | [d1, d2, d3] => { results := [.lit (.bool false)], args := [d1, d2, d3] }
  | _ => none }
def FnExactPiecePutWrongFalsely : Prop := fnExactPiecePutRow.holds Try.pinned (OpenSpec.ofChange fnExactPiecePutWrong)

/-- 'laws.FnExactDeedOk': WHATEVER THE INPUT: true; the input reads as it did. -/
def fnExactDeedOkSpec : ChangeSpec := { name := "fnExactDeedOk", fn := fun _ => fun
  | [d] => { results := [.lit (.bool true)], args := [d] }
  | _ => none }
def fnExactDeedOkRow : OpenClaim := { program := "ytdnclbghhdflmaa", sum := "0c4cdcc05acee58a0361605d2ea48096d6a9e79d15efdb527cc76f39e204040c", func := "loop.example/g00106/laws.FnExactDeedOk", spec := "fnExactDeedOk", apart := false }
def FnExactDeedOkSaid : Prop := fnExactDeedOkRow.holds Try.pinned (OpenSpec.ofChange fnExactDeedOkSpec)

/-- ITS FALSE NEIGHBOUR: 'it returns false'. Refute it at one input. -/
def fnExactDeedOkWrong : ChangeSpec := { name := "fnExactDeedOk", fn := fun _ => fun
  | [d] => { results := [.lit (.bool false)], args := [d] }
  | _ => none }
def FnExactDeedOkWrongFalsely : Prop := fnExactDeedOkRow.holds Try.pinned (OpenSpec.ofChange fnExactDeedOkWrong)

/-- 'laws.FnExactPieceNew': WHATEVER THE INPUT: true; the input reads as it did. -/
def fnExactPieceNewSpec : ChangeSpec := { name := "fnExactPieceNew", fn := fun _ => fun
  | [d1, d2, d3] => { results := [.lit (.bool true)], args := [d1, d2, d3] }
  | _ => none }
def fnExactPieceNewRow : OpenClaim := { program := "ytdnclbghhdflmaa", sum := "0c4cdcc05acee58a0361605d2ea48096d6a9e79d15efdb527cc76f39e204040c", func := "loop.example/g00106/laws.FnExactPieceNew", spec := "fnExactPieceNew", apart := false }
def FnExactPieceNewSaid : Prop := fnExactPieceNewRow.holds Try.pinned (OpenSpec.ofChange fnExactPieceNewSpec)

/-- ITS FALSE NEIGHBOUR: 'it returns false'. Refute it at one input. -/
def fnExactPieceNewWrong : ChangeSpec := { name := "fnExactPieceNew", fn := fun _ => fun
  | [d1, d2, d3] => { results := [.lit (.bool false)], args := [d1, d2, d3] }
  | _ => none }
def FnExactPieceNewWrongFalsely : Prop := fnExactPieceNewRow.holds Try.pinned (OpenSpec.ofChange fnExactPieceNewWrong)

/-- 'laws.FnExactHeldsOk': WHATEVER THE INPUT: true; the input reads as it did. -/
def fnExactHeldsOkSpec : ChangeSpec := { name := "fnExactHeldsOk", fn := fun _ => fun
  | [d] => { results := [.lit (.bool true)], args := [d] }
  | _ => none }
def fnExactHeldsOkRow : OpenClaim := { program := "ytdnclbghhdflmaa", sum := "0c4cdcc05acee58a0361605d2ea48096d6a9e79d15efdb527cc76f39e204040c", func := "loop.example/g00106/laws.FnExactHeldsOk", spec := "fnExactHeldsOk", apart := false }
def FnExactHeldsOkSaid : Prop := fnExactHeldsOkRow.holds Try.pinned (OpenSpec.ofChange fnExactHeldsOkSpec)

/-- ITS FALSE NEIGHBOUR: 'it returns false'. Refute it at one input. -/
def fnExactHeldsOkWrong : ChangeSpec := { name := "fnExactHeldsOk", fn := fun _ => fun
  | [d] => { results := [.lit (.bool false)], args := [d] }
  | _ => none }
def FnExactHeldsOkWrongFalsely : Prop := fnExactHeldsOkRow.holds Try.pinned (OpenSpec.ofChange fnExactHeldsOkWrong)

/-- 'laws.FnExactHeldPut': WHATEVER THE INPUT: true; the input reads as it did. -/
def fnExactHeldPutSpec : ChangeSpec := { name := "fnExactHeldPut", fn := fun _ => fun
  | [d1, d2, d3, d4] => { results := [.lit (.bool true)], args := [d1, d2, d3, d4] }
  | _ => none }
def fnExactHeldPutRow : OpenClaim := { program := "ytdnclbghhdflmaa", sum := "0c4cdcc05acee58a0361605d2ea48096d6a9e79d15efdb527cc76f39e204040c", func := "loop.example/g00106/laws.FnExactHeldPut", spec := "fnExactHeldPut", unfollowed := true, recurses := true, apart := false }
def FnExactHeldPutSaid : Prop := fnExactHeldPutRow.holds Try.pinned (OpenSpec.ofChange fnExactHeldPutSpec)

/-- ITS FALSE NEIGHBOUR: 'it returns false'. Refute it at one input. -/
def fnExactHeldPutWrong : ChangeSpec := { name := "fnExactHeldPut", fn := fun _ => fun
  | [d1, d2, d3, d4] => { results := [.lit (.bool false)], args := [d1, d2, d3, d4] }
  | _ => none }
def FnExactHeldPutWrongFalsely : Prop := fnExactHeldPutRow.holds Try.pinned (OpenSpec.ofChange fnExactHeldPutWrong)

/-- 'laws.FnHeldPut': WHATEVER THE INPUT: true; the input reads as it did. -/
def fnHeldPutSpec : ChangeSpec := { name := "fnHeldPut", fn := fun _ => fun
  | [d] => { results := [.lit (.bool true)], args := [d] }
  | _ => none }
def fnHeldPutRow : OpenClaim := { program := "ytdnclbghhdflmaa", sum := "0c4cdcc05acee58a0361605d2ea48096d6a9e79d15efdb527cc76f39e204040c", func := "loop.example/g00106/laws.FnHeldPut", spec := "fnHeldPut", unfollowed := true, recurses := true, apart := false }
def FnHeldPutSaid : Prop := fnHeldPutRow.holds Try.pinned (OpenSpec.ofChange fnHeldPutSpec)

/-- ITS FALSE NEIGHBOUR: 'it returns false'. Refute it at one input. -/
def fnHeldPutWrong : ChangeSpec := { name := "fnHeldPut", fn := fun _ => fun
  | [d] => { results := [.lit (.bool false)], args := [d] }
  | _ => none }
def FnHeldPutWrongFalsely : Prop := fnHeldPutRow.holds Try.pinned (OpenSpec.ofChange fnHeldPutWrong)

/-- 'laws.FnExactHeldText': WHATEVER THE INPUT: true; the input reads as it did. -/
def fnExactHeldTextSpec : ChangeSpec := { name := "fnExactHeldText", fn := fun _ => fun
  | [d1, d2] => { results := [.lit (.bool true)], args := [d1, d2] }
  | _ => none }
def fnExactHeldTextRow : OpenClaim := { program := "ytdnclbghhdflmaa", sum := "0c4cdcc05acee58a0361605d2ea48096d6a9e79d15efdb527cc76f39e204040c", func := "loop.example/g00106/laws.FnExactHeldText", spec := "fnExactHeldText", inPlace := ["internal/abi.NoEscape", "internal/bytealg.MakeNoZero"], unfollowed := true, recurses := true, apart := false }
def FnExactHeldTextSaid : Prop := fnExactHeldTextRow.holds Try.pinned (OpenSpec.ofChange fnExactHeldTextSpec)

/-- ITS FALSE NEIGHBOUR: 'it returns false'. Refute it at one input. -/
def fnExactHeldTextWrong : ChangeSpec := { name := "fnExactHeldText", fn := fun _ => fun
  | [d1, d2] => { results := [.lit (.bool false)], args := [d1, d2] }
  | _ => none }
def FnExactHeldTextWrongFalsely : Prop := fnExactHeldTextRow.holds Try.pinned (OpenSpec.ofChange fnExactHeldTextWrong)

/-- 'laws.FnExactHeldNew': WHATEVER THE INPUT: true; the input reads as it did. -/
def fnExactHeldNewSpec : ChangeSpec := { name := "fnExactHeldNew", fn := fun _ => fun
  | [d1, d2, d3, d4] => { results := [.lit (.bool true)], args := [d1, d2, d3, d4] }
  | _ => none }
def fnExactHeldNewRow : OpenClaim := { program := "ytdnclbghhdflmaa", sum := "0c4cdcc05acee58a0361605d2ea48096d6a9e79d15efdb527cc76f39e204040c", func := "loop.example/g00106/laws.FnExactHeldNew", spec := "fnExactHeldNew", inPlace := ["slices.overlaps[loop.example/g00106/impl.Held]"], unfollowed := true, recurses := true, apart := false }
def FnExactHeldNewSaid : Prop := fnExactHeldNewRow.holds Try.pinned (OpenSpec.ofChange fnExactHeldNewSpec)

/-- ITS FALSE NEIGHBOUR: 'it returns false'. Refute it at one input. -/
def fnExactHeldNewWrong : ChangeSpec := { name := "fnExactHeldNew", fn := fun _ => fun
  | [d1, d2, d3, d4] => { results := [.lit (.bool false)], args := [d1, d2, d3, d4] }
  | _ => none }
def FnExactHeldNewWrongFalsely : Prop := fnExactHeldNewRow.holds Try.pinned (OpenSpec.ofChange fnExactHeldNewWrong)

/- THE SECOND FORM. 'bulk': how many values and letters a reading holds, each counted each time it is reached (what is shared counts as often as it is met; a slice's spare places count too). A statement '..UptoSaid' is the law's where the arguments, and the package variables that the reading takes, are together of bulk at most 1048576: NARROWER than '..Said'. Prove '..Said' where nothing that the law and all that it calls make is longer than what came in: it says more and counts as full. Else prove '..UptoSaid'. A law counts once. -/
mutual
def uptoBulk {H : Type} : DataW H → Nat
  | .lit (.string bytes) => bytes.length + 1
  | .lit _ => 1
  | .nil => 1
  | .ptr d => uptoBulk d + 1
  | .slice elems spare => uptoBulkAll elems + uptoBulkAll spare + 1
  | .agg parts => uptoBulkAll parts + 1
  | .iface _ d => uptoBulk d + 1
  | .map entries => uptoBulkEntries entries + 1
  | .held _ => 1
def uptoBulkAll {H : Type} : List (DataW H) → Nat
  | [] => 0
  | d :: r => uptoBulk d + uptoBulkAll r
def uptoBulkEntries {H : Type} : List (Lit × DataW H) → Nat
  | [] => 0
  | x :: r => uptoBulkEntry x + uptoBulkEntries r
def uptoBulkEntry {H : Type} : Lit × DataW H → Nat
  | (.string bytes, d) => bytes.length + uptoBulk d + 1
  | (_, d) => uptoBulk d + 1
 end
def uptoSmall : (H : Type) → List (DataW H) → Bool := fun _ ds => decide (uptoBulkAll ds ≤ 1048576)
def OpenSpec.upto (s : _root_.Go.ChangeSpec) : _root_.Go.OpenSpec := { _root_.Go.OpenSpec.ofChange s with cond := some uptoSmall }

/-- 'laws.FnExactPiecePut', WHERE WHAT IT READS IS OF BULK AT MOST 1048576: true; the input reads as it did. -/
def fnExactPiecePutUptoRow : OpenClaim := { program := "ytdnclbghhdflmaa", sum := "0c4cdcc05acee58a0361605d2ea48096d6a9e79d15efdb527cc76f39e204040c", func := "loop.example/g00106/laws.FnExactPiecePut", spec := "fnExactPiecePut", apart := false, narrowed := true }
def FnExactPiecePutUptoSaid : Prop := fnExactPiecePutUptoRow.holds Try.pinned (OpenSpec.upto fnExactPiecePutSpec)

/-- 'laws.FnExactDeedOk', WHERE WHAT IT READS IS OF BULK AT MOST 1048576: true; the input reads as it did. -/
def fnExactDeedOkUptoRow : OpenClaim := { program := "ytdnclbghhdflmaa", sum := "0c4cdcc05acee58a0361605d2ea48096d6a9e79d15efdb527cc76f39e204040c", func := "loop.example/g00106/laws.FnExactDeedOk", spec := "fnExactDeedOk", apart := false, narrowed := true }
def FnExactDeedOkUptoSaid : Prop := fnExactDeedOkUptoRow.holds Try.pinned (OpenSpec.upto fnExactDeedOkSpec)

/-- 'laws.FnExactPieceNew', WHERE WHAT IT READS IS OF BULK AT MOST 1048576: true; the input reads as it did. -/
def fnExactPieceNewUptoRow : OpenClaim := { program := "ytdnclbghhdflmaa", sum := "0c4cdcc05acee58a0361605d2ea48096d6a9e79d15efdb527cc76f39e204040c", func := "loop.example/g00106/laws.FnExactPieceNew", spec := "fnExactPieceNew", apart := false, narrowed := true }
def FnExactPieceNewUptoSaid : Prop := fnExactPieceNewUptoRow.holds Try.pinned (OpenSpec.upto fnExactPieceNewSpec)

/-- 'laws.FnExactHeldsOk', WHERE WHAT IT READS IS OF BULK AT MOST 1048576: true; the input reads as it did. -/
def fnExactHeldsOkUptoRow : OpenClaim := { program := "ytdnclbghhdflmaa", sum := "0c4cdcc05acee58a0361605d2ea48096d6a9e79d15efdb527cc76f39e204040c", func := "loop.example/g00106/laws.FnExactHeldsOk", spec := "fnExactHeldsOk", apart := false, narrowed := true }
def FnExactHeldsOkUptoSaid : Prop := fnExactHeldsOkUptoRow.holds Try.pinned (OpenSpec.upto fnExactHeldsOkSpec)

/-- 'laws.FnExactHeldPut', WHERE WHAT IT READS IS OF BULK AT MOST 1048576: true; the input reads as it did. -/
def fnExactHeldPutUptoRow : OpenClaim := { program := "ytdnclbghhdflmaa", sum := "0c4cdcc05acee58a0361605d2ea48096d6a9e79d15efdb527cc76f39e204040c", func := "loop.example/g00106/laws.FnExactHeldPut", spec := "fnExactHeldPut", unfollowed := true, recurses := true, apart := false, narrowed := true }
def FnExactHeldPutUptoSaid : Prop := fnExactHeldPutUptoRow.holds Try.pinned (OpenSpec.upto fnExactHeldPutSpec)

/-- 'laws.FnHeldPut', WHERE WHAT IT READS IS OF BULK AT MOST 1048576: true; the input reads as it did. -/
def fnHeldPutUptoRow : OpenClaim := { program := "ytdnclbghhdflmaa", sum := "0c4cdcc05acee58a0361605d2ea48096d6a9e79d15efdb527cc76f39e204040c", func := "loop.example/g00106/laws.FnHeldPut", spec := "fnHeldPut", unfollowed := true, recurses := true, apart := false, narrowed := true }
def FnHeldPutUptoSaid : Prop := fnHeldPutUptoRow.holds Try.pinned (OpenSpec.upto fnHeldPutSpec)

/-- 'laws.FnExactHeldText', WHERE WHAT IT READS IS OF BULK AT MOST 1048576: true; the input reads as it did. -/
def fnExactHeldTextUptoRow : OpenClaim := { program := "ytdnclbghhdflmaa", sum := "0c4cdcc05acee58a0361605d2ea48096d6a9e79d15efdb527cc76f39e204040c", func := "loop.example/g00106/laws.FnExactHeldText", spec := "fnExactHeldText", inPlace := ["internal/abi.NoEscape", "internal/bytealg.MakeNoZero"], unfollowed := true, recurses := true, apart := false, narrowed := true }
def FnExactHeldTextUptoSaid : Prop := fnExactHeldTextUptoRow.holds Try.pinned (OpenSpec.upto fnExactHeldTextSpec)

/-- 'laws.FnExactHeldNew', WHERE WHAT IT READS IS OF BULK AT MOST 1048576: true; the input reads as it did. -/
def fnExactHeldNewUptoRow : OpenClaim := { program := "ytdnclbghhdflmaa", sum := "0c4cdcc05acee58a0361605d2ea48096d6a9e79d15efdb527cc76f39e204040c", func := "loop.example/g00106/laws.FnExactHeldNew", spec := "fnExactHeldNew", inPlace := ["slices.overlaps[loop.example/g00106/impl.Held]"], unfollowed := true, recurses := true, apart := false, narrowed := true }
def FnExactHeldNewUptoSaid : Prop := fnExactHeldNewUptoRow.holds Try.pinned (OpenSpec.upto fnExactHeldNewSpec)

end Rows
end Go.Proofs.Ytdnclbghhdflmaa
