/- Plain data that come in. No conditions. -/
import Derived.Test.YtkecbkljfpebhaaNs
import Derived.Test.YtkecbkljfpebhaaTOpen
namespace Go.TL
set_option linter.unusedSimpArgs false
open Go.Proofs Go.RowKit

theorem open_int : Opens Try.prog Y.int (fun x : Int => [.v (.int .i64 x)]) (fun x => (Lit.int .i64 x).wf = true) := .int t3_un
theorem open_str : Opens Try.prog Y.string (fun x : ByteArray => [.v (.string x)]) (fun x => x.size ≤ 140737488351232) := .str t9_un

end Go.TL
