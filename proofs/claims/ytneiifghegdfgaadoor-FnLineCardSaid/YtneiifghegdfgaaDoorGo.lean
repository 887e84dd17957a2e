/- From what a row lists to what is known of package-level variables. No conditions. -/
import Derived.Test.YtneiifghegdfgaaDoorNm
import Derived.Stop.LaidErr
import Derived.Lib.LaidTab
import Derived.LaidLaws
namespace Go.TL
set_option linter.unusedSimpArgs false
open Go.Proofs Go.RowKit

theorem tab_of_laid {a b : String × DataW Unit} {r : List (String × DataW Unit)} {W : World} (h : laidMet Tryd.prog (a :: b :: ("internal/strconv.uint64pow10", Lib.tabData .u64 Lib.pow10Tab) :: r) W) : GlTab W W.heap.size := by
  have ht := Lib.tabIs_of_head (g := G.uint64pow10) (t := Y.ar20_uint64) (e := Y.uint64) (n := 20) (by kernel_rfl) (by kernel_rfl) (by kernel_rfl) (by kernel_rfl) (by kernel_rfl) (by kernel_rfl) h.tail.tail
  refine ⟨G.uint64pow10, by kernel_rfl, ?_, ht⟩
  have hc := ht.cell (g := G.uint64pow10) (by kernel_rfl) 0 (by decide)
  rcases Nat.lt_or_ge G.uint64pow10 W.heap.size with hlt | hge
  · exact hlt
  · simp [World.cell?, Array.getElem?_eq_none hge] at hc

theorem star : "*" ++ "errors.errorString" = "*errors.errorString" := by decide
theorem row_err (u : TypeId) (h : Tryd.prog.typeName? 3 u = some "*errors.errorString") : u = 114 :=
  typeName_ptr_named (nm := "errors.errorString") (by rw [star]; kernel_rfl) (by kernel_rfl) (by decide) u (by rw [star]; exact h)
theorem err_of_laid {n : String} {g : Nat} {text : List UInt8} {r : List (String × DataW Unit)} {W : World} (hg : Tryd.prog.globalNamed n = some g) (ht : (Tryd.prog.globals[g]?).map (·.type) = some Y.error) (h : laidMet Tryd.prog ((n, .iface "*errors.errorString" (.ptr (.agg [.lit (.string text)]))) :: r) W) : GlErr n W W.heap.size := by
  obtain ⟨a, s, hv, _⟩ := laid_sentinel h hg ht Tryd.underlying79 row_err Tryd.underlying114 Tryd.underlying116 rfl rfl Tryd.underlying9 (by kernel_rfl) (by kernel_rfl)
  refine ⟨g, Y.ptr_errorString, .pointer (some a), hg, ?_, hv⟩
  have hc : W.cell? ⟨g, 0, none⟩ = some (.iface Y.ptr_errorString (.pointer (some a))) := by simpa using World.var?_cell hg hv 0
  rcases Nat.lt_or_ge g W.heap.size with hlt | hge
  · exact hlt
  · simp [World.cell?, Array.getElem?_eq_none hge] at hc
theorem gl_of_laid {a b : String × DataW Unit} {t1 t2 : List UInt8} {r : List (String × DataW Unit)} {W : World} (h : laidMet Tryd.prog (a :: b :: ("internal/strconv.uint64pow10", Lib.tabData .u64 Lib.pow10Tab) :: ("strconv.ErrRange", .iface "*errors.errorString" (.ptr (.agg [.lit (.string t1)]))) :: ("strconv.ErrSyntax", .iface "*errors.errorString" (.ptr (.agg [.lit (.string t2)]))) :: r) W) : Gl W W.heap.size :=
  ⟨tab_of_laid h, err_of_laid (g := G.ErrSyntax) (by kernel_rfl) (by kernel_rfl) h.tail.tail.tail.tail, err_of_laid (g := G.ErrRange) (by kernel_rfl) (by kernel_rfl) h.tail.tail.tail⟩
theorem gl_of_laid6 {a b c : String × DataW Unit} {t1 t2 : List UInt8} {r : List (String × DataW Unit)} {W : World} (h : laidMet Tryd.prog (a :: b :: ("internal/strconv.uint64pow10", Lib.tabData .u64 Lib.pow10Tab) :: c :: ("strconv.ErrRange", .iface "*errors.errorString" (.ptr (.agg [.lit (.string t1)]))) :: ("strconv.ErrSyntax", .iface "*errors.errorString" (.ptr (.agg [.lit (.string t2)]))) :: r) W) : Gl W W.heap.size :=
  ⟨tab_of_laid h, err_of_laid (g := G.ErrSyntax) (by kernel_rfl) (by kernel_rfl) h.tail.tail.tail.tail.tail, err_of_laid (g := G.ErrRange) (by kernel_rfl) (by kernel_rfl) h.tail.tail.tail.tail⟩
end Go.TL
