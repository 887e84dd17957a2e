/- What is known of package-level variables: here nothing. No conditions. -/
import Derived.Below
namespace Go.TL
set_option linter.unusedSimpArgs false
open Go.RowKit

def Gl (_w : World) (_B : Nat) : Prop := True
theorem Gl.mono {w w' : World} {B : Nat} (_h : Gl w B) (_hb : Below B w w') : Gl w' B := trivial
end Go.TL
