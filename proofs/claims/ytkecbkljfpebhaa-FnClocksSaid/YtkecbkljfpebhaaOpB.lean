/- Bytes that come in. No conditions. -/
import Derived.Test.YtkecbkljfpebhaaNs
import Derived.Test.YtkecbkljfpebhaaTOpen
namespace Go.TL
set_option linter.unusedSimpArgs false
open Go.Proofs Go.RowKit

theorem open_bytes : Opens Try.prog Y.sl_uint8 (fun l : List Int => [.sl false 0 l.length 1 (rowT u8C l)]) (fun l => l.length * 1 ≤ 140737488351232 ∧ ∀ x ∈ l, (Lit.int .u8 x).wf = true) :=
  Opens.sl (e := Y.uint8) (sz := 1) (bs := 1) (enc := u8C) (by kernel_rfl) (by kernel_rfl) (by kernel_rfl) (by decide) (fun _ => rfl) (.int (by kernel_rfl))
theorem wf_u8 {x : Int} (h : (Lit.int .u8 x).wf = true) : 0 ≤ x ∧ x < 256 := by
  simp [Lit.wf, IntKind.min, IntKind.max, IntKind.bits, IntKind.signed] at h
  omega

end Go.TL
