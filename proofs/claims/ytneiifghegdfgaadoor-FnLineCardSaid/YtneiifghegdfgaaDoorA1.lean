/- Small functions of both sides. No conditions but those that are written. -/
import Derived.Test.YtneiifghegdfgaaDoorNm
namespace Go.TL
set_option linter.unusedSimpArgs false
open Go.Proofs Go.RowKit
attribute [local irreducible] wpOpsT wpT EndT Ex.seq Ex.block W

set_option maxHeartbeats 4000000 in
theorem impl_within (x lo hi : Int) : CallsT Tryd.prog [] F.impl_within [.v (.int .i64 x), .v (.int .i64 lo), .v (.int .i64 hi)] (.v (.bool (decide (lo ≤ x ∧ x ≤ hi)))) [] := by
  refine fnT C.impl_within ?_
  refine run ?_
  exact r_end [] []
instance (x lo hi : Int) : Con Tryd.prog F.impl_within [.v (.int .i64 x), .v (.int .i64 lo), .v (.int .i64 hi)] True (.v (.bool (decide (lo ≤ x ∧ x ≤ hi)))) [] := ⟨fun _ => impl_within x lo hi⟩

set_option maxHeartbeats 4000000 in
theorem spec_l1In (x lo hi : Int) : CallsT Tryd.prog [] F.spec_l1In [.v (.int .i64 x), .v (.int .i64 lo), .v (.int .i64 hi)] (.v (.bool (decide (lo ≤ x ∧ x ≤ hi)))) [] := by
  refine fnT C.spec_l1In ?_
  refine run ?_
  exact r_end [] []
instance (x lo hi : Int) : Con Tryd.prog F.spec_l1In [.v (.int .i64 x), .v (.int .i64 lo), .v (.int .i64 hi)] True (.v (.bool (decide (lo ≤ x ∧ x ≤ hi)))) [] := ⟨fun _ => spec_l1In x lo hi⟩

set_option maxHeartbeats 4000000 in
theorem impl_isRelease (x : Int) : CallsT Tryd.prog [] F.impl_isRelease [.v (.int .i64 x)] (.v (.bool (decide (1 ≤ x ∧ x ≤ 1000)))) [] := by
  refine fnT C.impl_isRelease ?_
  refine run ?_
  exact r_end [] []
instance (x : Int) : Con Tryd.prog F.impl_isRelease [.v (.int .i64 x)] True (.v (.bool (decide (1 ≤ x ∧ x ≤ 1000)))) [] := ⟨fun _ => impl_isRelease x⟩

set_option maxHeartbeats 4000000 in
theorem impl_isSize (x : Int) : CallsT Tryd.prog [] F.impl_isSize [.v (.int .i64 x)] (.v (.bool (decide (0 ≤ x ∧ x ≤ 1000)))) [] := by
  refine fnT C.impl_isSize ?_
  refine run ?_
  exact r_end [] []
instance (x : Int) : Con Tryd.prog F.impl_isSize [.v (.int .i64 x)] True (.v (.bool (decide (0 ≤ x ∧ x ≤ 1000)))) [] := ⟨fun _ => impl_isSize x⟩

set_option maxHeartbeats 4000000 in
theorem impl_isNode (x : Int) : CallsT Tryd.prog [] F.impl_isNode [.v (.int .i64 x)] (.v (.bool (decide (0 ≤ x ∧ x ≤ 4)))) [] := by
  refine fnT C.impl_isNode ?_
  refine run ?_
  exact r_end [] []
instance (x : Int) : Con Tryd.prog F.impl_isNode [.v (.int .i64 x)] True (.v (.bool (decide (0 ≤ x ∧ x ≤ 4)))) [] := ⟨fun _ => impl_isNode x⟩

set_option maxHeartbeats 4000000 in
theorem impl_ofMail (x : Int) : CallsT Tryd.prog [] F.impl_ofMail [.v (.int .i64 x)] (.v (.bool (decide ((3 ≤ x ∧ x ≤ 6) ∨ x = 14)))) [] := by
  refine fnT C.impl_ofMail ?_
  refine run ?_
  exact r_end [] []
instance (x : Int) : Con Tryd.prog F.impl_ofMail [.v (.int .i64 x)] True (.v (.bool (decide ((3 ≤ x ∧ x ≤ 6) ∨ x = 14)))) [] := ⟨fun _ => impl_ofMail x⟩

def putNumL : Nat → Int → List Int
  | 0, _ => []
  | k + 1, x => if 127 < x then (x % 128 + 128) :: putNumL k (x / 128) else [x]

theorem putNumL_len : ∀ (k : Nat) (x : Int), (putNumL k x).length ≤ k
  | 0, _ => Nat.le_refl _
  | k + 1, x => by
    unfold putNumL
    split
    · have := putNumL_len k (x / 128); simp; omega
    · simp

/-- A text's form. -/
def textL (s : ByteArray) : List Int := putNumL 10 s.size ++ strL s

theorem nums_len : ∀ l : List Int, (l.flatMap (putNumL 10)).length ≤ 10 * l.length
  | [] => by simp
  | x :: l => by
    have h1 := nums_len l
    have h2 := putNumL_len 10 x
    simp only [List.flatMap_cons, List.length_append, List.length_cons]
    omega

end Go.TL
