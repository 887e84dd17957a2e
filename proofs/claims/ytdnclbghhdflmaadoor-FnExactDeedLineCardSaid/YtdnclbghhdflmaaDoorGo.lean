/- From what a row lists to what is known of package-level variables. No conditions. -/
import Derived.Test.YtdnclbghhdflmaaDoorGl
import Derived.Stop.LaidErr
import Derived.Lib.LaidTab
import Derived.LaidLaws
namespace Go.TL
open Go.Proofs Go.RowKit

theorem gl_of_laid {a b : String × DataW Unit} {r : List (String × DataW Unit)} {W : World} (h : laidMet Tryd.prog (a :: b :: ("internal/strconv.uint64pow10", Lib.tabData .u64 Lib.pow10Tab) :: r) W) : Gl W W.heap.size := by
  have ht := Lib.tabIs_of_head (g := 2) (t := 73) (e := 59) (n := 20) (by kernel_rfl) (by kernel_rfl) (by kernel_rfl) (by kernel_rfl) (by kernel_rfl) (by kernel_rfl) h.tail.tail
  refine ⟨2, by kernel_rfl, ?_, ht⟩
  have hc := ht.cell (g := 2) (by kernel_rfl) 0 (by decide)
  rcases Nat.lt_or_ge 2 W.heap.size with hlt | hge
  · exact hlt
  · simp [World.cell?, Array.getElem?_eq_none hge] at hc
end Go.TL
