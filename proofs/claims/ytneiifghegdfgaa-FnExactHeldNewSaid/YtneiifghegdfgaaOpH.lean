/- Helds that come in: printed by a program of this work. No conditions but those that are written. -/
import Derived.Test.YtneiifghegdfgaaA6
import Derived.Test.YtneiifghegdfgaaOp0
namespace Go.TL
set_option linter.unusedSimpArgs false
open Go.Proofs Go.RowKit
attribute [local irreducible] wpOpsT wpT EndT Ex.seq Ex.block W

theorem open_stringS : Opens Try.prog Y.sl_string (fun l : List ByteArray => [.sl false 0 l.length 1 (rowT strC l)]) bndS :=
  (Opens.sl un_sl_string t9_sz t9_by (by decide) (fun _ => rfl) (.str t9_un)).map (fun l => l) (fun _ => rfl) (fun _ h => ⟨by have := h.1; omega, h.2⟩)
theorem open_Held : Opens Try.prog Y.laws_Held heldC bndH :=
  (Opens.st so_laws_Held sz_laws_Held (.cons t3_sz (.int t3_un) (.cons sz_laws_Parcel (Opens.st so_laws_Parcel sz_laws_Parcel (.cons t3_sz (.int t3_un) (.cons t9_sz (.str t9_un) (.cons sz_sl_string open_stringS .nil (by decide)) (by decide)) (by decide))) .nil (by decide)) (by decide))).map
    (fun x : Int × (Int × ByteArray × List ByteArray × Unit) × Unit => (⟨x.1, x.2.1.1, x.2.1.2.1, x.2.1.2.2.1⟩ : HeldV)) (fun _ => rfl) (fun _ h => ⟨h.2.1.2.1, h.2.1.2.2.1⟩)
theorem open_HeldS : Opens Try.prog Y.sl_laws_Held (fun l : List HeldV => [.sl false 0 l.length 4 (rowT heldC l)]) bndHS :=
  (Opens.sl un_sl_laws_Held sz_laws_Held by_laws_Held (by decide) (fun _ => rfl) open_Held).map (fun l => l) (fun _ => rfl) (fun _ h => ⟨by have := h.1; omega, h.2⟩)
end Go.TL
