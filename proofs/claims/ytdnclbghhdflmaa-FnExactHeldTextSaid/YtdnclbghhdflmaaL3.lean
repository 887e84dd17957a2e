/- The law of HeldsOk on trees. No conditions but those that are written. -/
import Derived.Test.YtdnclbghhdflmaaA7
import Derived.Test.YtdnclbghhdflmaaNs
import Derived.Test.YtdnclbghhdflmaaTOpen
namespace Go.TL
open Go.Proofs Go.RowKit

theorem law_HeldsOk (l : List HeldV) (hb : bndHS l) : CallsT Try.prog [] F.laws_FnExactHeldsOk [.sl false 0 l.length 4 (rowT heldC l)] (.v (.bool true)) [] := by
  refine fnT C.laws_FnExactHeldsOk ?_
  have hc : cutI (1048576 - totHS l) = -1 ∨ 0 ≤ cutI (1048576 - totHS l) := by unfold cutI; split <;> omega
  refine run ?_
  refine r_ifd (fun h => ?_) (fun h => ?_)
  · refine run ?_
    exact r_end [] []
  refine run ?_
  exact r_end [] []

/-- Helds that come in. -/
theorem open_strS : Opens Try.prog 46 (fun l : List ByteArray => [.sl false 0 l.length 1 (rowT strC l)]) (fun l => l.length * 16 ≤ 140737488351232 ∧ ∀ x ∈ l, x.size ≤ 140737488351232) :=
  Opens.sl t46_un t9_sz t9_by (by decide) (fun _ => rfl) (.str t9_un)
theorem open_Held : Opens Try.prog 66 heldC bndH :=
  (Opens.st t66_so t66_sz (.cons t3_sz (.int t3_un) (.cons t64_sz (Opens.st t64_so t64_sz (.cons t3_sz (.int t3_un) (.cons t9_sz (.str t9_un) (.cons t46_sz open_strS .nil (by decide)) (by decide)) (by decide))) .nil (by decide)) (by decide))).map
    (fun x : Int × (Int × ByteArray × List ByteArray × Unit) × Unit => (⟨x.1, x.2.1.1, x.2.1.2.1, x.2.1.2.2.1⟩ : HeldV)) (fun _ => rfl) (fun _ h => ⟨h.2.1.2.1, by have := h.2.1.2.2.1.1; dsimp only; omega, h.2.1.2.2.1.2⟩)
theorem open_HeldS : Opens Try.prog 31 (fun l : List HeldV => [.sl false 0 l.length 4 (rowT heldC l)]) bndHS :=
  (Opens.sl t31_un t66_sz t66_by (by decide) (fun _ => rfl) open_Held).map (fun l => l) (fun _ => rfl) (fun _ h => ⟨by have := h.1; omega, h.2⟩)

end Go.TL
