/- From what a row lists to what is known of package-level variables. No conditions. -/
import Derived.Test.YtjpgfcmkdlnocaaGreatDoorNm
import Derived.Stop.LaidErr
import Derived.Lib.LaidTab
import Derived.LaidLaws
namespace Go.TL
set_option linter.unusedSimpArgs false
open Go.Proofs Go.RowKit

theorem gl_of_laid {a b : String × DataW Unit} {r : List (String × DataW Unit)} {W : World} (h : laidMet Tryz.prog (a :: b :: ("internal/strconv.uint64pow10", Lib.tabData .u64 Lib.pow10Tab) :: r) W) : Gl W W.heap.size := by
  have ht := Lib.tabIs_of_head (g := G.uint64pow10) (t := Y.ar20_uint64) (e := Y.uint64) (n := 20) (by kernel_rfl) (by kernel_rfl) (by kernel_rfl) (by kernel_rfl) (by kernel_rfl) (by kernel_rfl) h.tail.tail
  refine ⟨G.uint64pow10, by kernel_rfl, ?_, ht⟩
  have hc := ht.cell (g := G.uint64pow10) (by kernel_rfl) 0 (by decide)
  rcases Nat.lt_or_ge G.uint64pow10 W.heap.size with hlt | hge
  · exact hlt
  · simp [World.cell?, Array.getElem?_eq_none hge] at hc
end Go.TL
