/- Numbers as texts: the library, the implementation. No conditions but those that are written. -/
import Derived.Test.YtneiifghegdfgaaDoorD1
import Derived.Test.YtneiifghegdfgaaDoorShI
import Derived.Test.YtneiifghegdfgaaDoorTLib
import Derived.WalkSmall
namespace Go.TL
set_option linter.unusedSimpArgs false
open Go.Proofs Go.RowKit
attribute [local irreducible] wpOpsT wpT EndT Ex.seq Ex.block W

theorem below_grow (w : World) (k : Nat) (os : Array Obj) : Below w.heap.size w (Go.Sort.grow (w.drewN k) os) :=
  ⟨rfl, rfl, rfl, by show _ ≤ ((w.drewN k).heap ++ os).size; rw [Array.size_append]; exact Nat.le_add_right _ _, fun b hb => by
    show ((w.drewN k).heap ++ os)[b]? = _
    exact Array.getElem?_append_left hb⟩

theorem strconv_Itoa (n : Int) (hpre : -9223372036854775808 ≤ n ∧ n ≤ 9223372036854775807) : CallsT Tryd.prog [] F.strconv_Itoa [.v (.int .i64 n)] (.v (.string (itoaB n))) [] := by
  refine CallsT.lib C.strconv_Itoa (by kernel_rfl) (by decide +kernel) fun E w0 vals hI hsz ht => ?_
  have h0 := ht 0 _ rfl
  match vals, hsz with
  | ⟨[v0]⟩, _ =>
    have h0 : TR E (.v (.int .i64 n)) v0 := h0
    cases h0
    obtain ⟨g, _, _, htab⟩ := (hI.hB.2.mono hI.below).tab
    refine (Tryd.strconv_Itoa n hpre.1 hpre.2 E.w htab).mono fun e w' h => ?_
    obtain ⟨h1, k, os, rfl⟩ := h
    exact ⟨h1, below_grow _ _ _⟩
instance (n : Int) : Con Tryd.prog F.strconv_Itoa [.v (.int .i64 n)] (-9223372036854775808 ≤ n ∧ n ≤ 9223372036854775807) (.v (.string (itoaB n))) [] := ⟨fun h => strconv_Itoa n h⟩

set_option maxHeartbeats 4000000 in
theorem impl_digits (n : Int) (hpre : -9223372036854775808 ≤ n ∧ n ≤ 9223372036854775807) : CallsT Tryd.prog [] F.impl_digits [.v (.int .i64 n)] (.v (.string (itoaB n))) [] := by
  refine fnT C.impl_digits ?_
  refine run ?_
  exact r_end [] []
instance (n : Int) : Con Tryd.prog F.impl_digits [.v (.int .i64 n)] (-9223372036854775808 ≤ n ∧ n ≤ 9223372036854775807) (.v (.string (itoaB n))) [] := ⟨fun h => impl_digits n h⟩

set_option maxHeartbeats 4000000 in
theorem impl_TextOf (n : Int) (hpre : -9223372036854775808 ≤ n ∧ n ≤ 9223372036854775807) : CallsT Tryd.prog [] F.impl_TextOf [.v (.int .i64 n)] (.v (.string (itoaB n))) [] := by
  refine fnT C.impl_TextOf ?_
  refine run ?_
  exact r_end [] []
instance (n : Int) : Con Tryd.prog F.impl_TextOf [.v (.int .i64 n)] (-9223372036854775808 ≤ n ∧ n ≤ 9223372036854775807) (.v (.string (itoaB n))) [] := ⟨fun h => impl_TextOf n h⟩

end Go.TL
