/- What is known of package-level variables: the table of the powers of ten, the errors of a numeral. No conditions. -/
import Derived.Test.YtneiifghegdfgaaDoorProg
import Derived.Below
import Derived.Lib.LaidTab
import Derived.Lib.ItoaNum
import Derived.KernelRfl
namespace Go.TL
set_option linter.unusedSimpArgs false
open Go.RowKit Go.Proofs

theorem var_mono {P : Program} {w w' : World} {B : Nat} {name : String} {g : Nat} {x : Option (Array Value)} (hg : P.globalNamed name = some g) (hb : Below B w w') (hlt : g < B) (h : w.var? P name = x) : w'.var? P name = x := by
  unfold World.var? at h ⊢
  rw [hg] at h ⊢
  simp only [Option.bind_some] at h ⊢
  rw [hb.block g hlt]; exact h
/-- The table of the powers of ten lies where its program lays it. -/
def GlTab (w : World) (B : Nat) : Prop := ∃ g, Tryd.prog.globalNamed "internal/strconv.uint64pow10" = some g ∧ g < B ∧ Lib.TabIs Tryd.prog w "internal/strconv.uint64pow10" .u64 Lib.pow10Tab
theorem GlTab.mono {w w' : World} {B : Nat} (h : GlTab w B) (hb : Below B w w') : GlTab w' B := by
  obtain ⟨g, h1, h2, h3⟩ := h
  exact ⟨g, h1, h2, var_mono h1 hb h2 h3⟩
/-- A variable of an error's type holds one. -/
def GlErr (name : String) (w : World) (B : Nat) : Prop := ∃ g te pe, Tryd.prog.globalNamed name = some g ∧ g < B ∧ w.var? Tryd.prog name = some #[.iface te pe]
theorem GlErr.mono {name : String} {w w' : World} {B : Nat} (h : GlErr name w B) (hb : Below B w w') : GlErr name w' B := by
  obtain ⟨g, te, pe, h1, h2, h3⟩ := h
  exact ⟨g, te, pe, h1, h2, var_mono h1 hb h2 h3⟩
def Gl (w : World) (B : Nat) : Prop := GlTab w B ∧ GlErr "strconv.ErrSyntax" w B ∧ GlErr "strconv.ErrRange" w B
theorem Gl.mono {w w' : World} {B : Nat} (h : Gl w B) (hb : Below B w w') : Gl w' B := ⟨h.1.mono hb, h.2.1.mono hb, h.2.2.mono hb⟩
theorem Gl.tab {w : World} {B : Nat} (h : Gl w B) : GlTab w B := h.1
end Go.TL
