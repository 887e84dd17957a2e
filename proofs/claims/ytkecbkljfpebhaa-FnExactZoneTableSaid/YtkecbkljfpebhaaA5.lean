/- Helds: sizes, copies, likeness. No conditions but those that are written. -/
import Derived.Test.YtkecbkljfpebhaaA4
import Derived.Test.YtkecbkljfpebhaaTGet
namespace Go.TL
set_option linter.unusedSimpArgs false
open Go.Proofs Go.RowKit
attribute [local irreducible] wpOpsT wpT EndT Ex.seq Ex.block W

def cutI (x : Int) : Int := if x < 0 then -1 else x
theorem cutI_neg {x : Int} (h : cutI x < 0) : x < 0 := by unfold cutI at h; split at h <;> omega
theorem cutI_nn {x : Int} (h : ¬ cutI x < 0) : cutI x = x ∧ 0 ≤ x := by unfold cutI at h ⊢; split at h <;> omega
def sumI {α : Type} (f : α → Int) (l : List α) : Int := (l.map f).sum
theorem sum_nn {α : Type} {f : α → Int} (hf : ∀ x, 0 ≤ f x) : ∀ l : List α, 0 ≤ sumI f l
  | [] => by simp [sumI]
  | x :: l => by
    have h1 := hf x
    have h2 := sum_nn hf l
    simp only [sumI, List.map_cons, List.sum_cons] at h2 ⊢
    omega
theorem sum_app {α : Type} (f : α → Int) (a b : List α) : sumI f (a ++ b) = sumI f a + sumI f b := by simp [sumI]
@[go_sem] theorem sum_nil {α : Type} (f : α → Int) : sumI f [] = 0 := rfl
theorem sum_take {α : Type} [Inhabited α] (f : α → Int) {l : List α} {i : Nat} (h : i < l.length) : sumI f (l.take (i + 1)) = sumI f (l.take i) + f (nth l i) := by
  rw [take_nth h, sum_app]; simp [sumI]
theorem sum_le {α : Type} {f : α → Int} (hf : ∀ x, 0 ≤ f x) (l : List α) (i : Nat) : sumI f (l.take i) ≤ sumI f l := by
  have h1 := sum_app f (l.take i) (l.drop i)
  have h2 := sum_nn hf (l.drop i)
  rw [List.take_append_drop] at h1
  omega

def szS (s : ByteArray) : Int := s.size
theorem szS_nn (s : ByteArray) : 0 ≤ szS s := by unfold szS; omega
def totS (l : List ByteArray) : Int := l.length + sumI szS l
theorem totS_nn (l : List ByteArray) : 0 ≤ totS l := by have := sum_nn szS_nn l; unfold totS; omega
theorem totS_nn' (l : List ByteArray) : 0 ≤ totS l := totS_nn l
def bndS (l : List ByteArray) : Prop := l.length ≤ 8796093022208 ∧ ∀ s ∈ l, s.size ≤ 140737488351232

/-! ### Parcels -/
def totP (d : ByteArray) (l : List ByteArray) : Int := d.size + totS l
def bndP (d : ByteArray) (l : List ByteArray) : Prop := d.size ≤ 140737488351232 ∧ bndS l

/-! ### Helds -/
structure HeldV where
  rel : Int
  size : Int
  dig : ByteArray
  parts : List ByteArray
instance : Inhabited HeldV := ⟨⟨0, 0, ⟨#[]⟩, []⟩⟩
def heldC (h : HeldV) : List T := [.v (.int .i64 h.rel), .v (.int .i64 h.size), .v (.string h.dig), .sl false 0 h.parts.length 1 (rowT strC h.parts)]
instance : RowE heldC 4 := ⟨⟨fun _ => rfl, fun _ => rfl⟩⟩
instance : RowF heldC := ⟨fun _ => rfl⟩
attribute [go_sem] heldC
def bndH (h : HeldV) : Prop := bndP h.dig h.parts
def totH (h : HeldV) : Int := totP h.dig h.parts
theorem totH_nn (h : HeldV) : 0 ≤ totH h := by have := totS_nn h.parts; unfold totH totP; omega

end Go.TL
