/- Releases of one's own. No conditions. -/
import Derived.Test.YthkahdjgkcccgaaF2
import Derived.Test.YthkahdjgkcccgaaTNst
namespace Go.TL
set_option linter.unusedSimpArgs false
open Go.Proofs Go.RowKit
attribute [local irreducible] wpOpsT wpT EndT Ex.seq Ex.block W

def relO (x : RelV) : List T := [.v (.int .i64 x.no), .v (.int .i64 x.size), .v (.string x.dig), ownC x.ready.length 1 (rowT i64C x.ready), .v (.int .i64 x.state)]
instance : RowO relO relC 5 := ⟨fun _ => rfl, fun x => by simp [relO, allTs, allT, leafOwn, own_ownC], fun x => by simp only [relO, zns, zn, zn_ownC, relC], by decide⟩
attribute [go_sem] relO

end Go.TL
