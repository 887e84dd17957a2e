/- Deeds that come in. No conditions. -/
import Derived.Test.YtdnclbghhdflmaaDoorB0
import Derived.Test.YtdnclbghhdflmaaDoorOp0
namespace Go.TL
open Go.Proofs Go.RowKit
attribute [local irreducible] wpOpsT wpT EndT Ex.seq Ex.block W

/-- Deeds that come in. -/
theorem open_Deed : Opens Tryd.prog Y.laws_Deed deedC (fun d => (I64 d.at_ ∧ I64 d.to ∧ I64 d.rel ∧ I64 d.part) ∧ d.text.size ≤ 140737488351232) :=
  (Opens.st so_laws_Deed sz_laws_Deed (.cons t3_sz (.int t3_un) (.cons t3_sz (.int t3_un) (.cons t3_sz (.int t3_un) (.cons t3_sz (.int t3_un) (.cons t3_sz (.int t3_un) (.cons t9_sz (.str t9_un) .nil (by decide)) (by decide)) (by decide)) (by decide)) (by decide)) (by decide))).map
    (fun x : Int × Int × Int × Int × Int × ByteArray × Unit => (⟨x.1, x.2.1, x.2.2.1, x.2.2.2.1, x.2.2.2.2.1, x.2.2.2.2.2.1⟩ : DeedV)) (fun _ => rfl) (fun _ h => ⟨⟨wf_i64 h.2.1, wf_i64 h.2.2.1, wf_i64 h.2.2.2.1, wf_i64 h.2.2.2.2.1⟩, h.2.2.2.2.2.1⟩)

end Go.TL
