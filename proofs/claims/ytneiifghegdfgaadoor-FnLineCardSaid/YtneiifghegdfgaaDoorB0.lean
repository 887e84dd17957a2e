/- Deeds: what is right. No conditions. -/
import Derived.Test.YtneiifghegdfgaaDoorA1
namespace Go.TL
set_option linter.unusedSimpArgs false
open Go.Proofs Go.RowKit
attribute [local irreducible] wpOpsT wpT EndT Ex.seq Ex.block W

def I64 (x : Int) : Prop := -9223372036854775808 ≤ x ∧ x ≤ 9223372036854775807
structure DeedV where
  kind : Int
  at_ : Int
  to : Int
  rel : Int
  part : Int
  text : ByteArray
def deedC (d : DeedV) : List T := [.v (.int .i64 d.kind), .v (.int .i64 d.at_), .v (.int .i64 d.to), .v (.int .i64 d.rel), .v (.int .i64 d.part), .v (.string d.text)]

/-- What a deed must be. -/
def deedP (k a t r p : Int) (s : ByteArray) : Prop :=
  if k = 1 ∨ k = 2 ∨ k = 8 then (0 ≤ a ∧ a ≤ 4) ∧ t = 0 ∧ r = 0 ∧ p = 0 ∧ s = ⟨#[]⟩
  else if k = 3 ∨ k = 4 ∨ k = 5 then (0 ≤ a ∧ a ≤ 59) ∧ t = 0 ∧ r = 0 ∧ p = 0 ∧ s = ⟨#[]⟩
  else if k = 6 then (0 ≤ a ∧ a ≤ 59) ∧ (0 ≤ t ∧ t ≤ 59) ∧ r = 0 ∧ p = 0 ∧ s = ⟨#[]⟩
  else if k = 7 then (0 ≤ a ∧ a ≤ 4) ∧ (0 ≤ t ∧ t ≤ 40000) ∧ (0 ≤ p ∧ p ≤ 40000) ∧ r = 0 ∧ s = ⟨#[]⟩
  else if k = 14 then (0 ≤ a ∧ a ≤ 59) ∧ (0 ≤ t ∧ t ≤ 40000) ∧ (0 ≤ p ∧ p ≤ 40000) ∧ r = 0 ∧ s = ⟨#[]⟩
  else if k = 9 then (0 ≤ a ∧ a ≤ 4) ∧ (0 ≤ t ∧ t ≤ 4) ∧ (1 ≤ r ∧ r ≤ 1000) ∧ (s.size : Int) ≤ 1000 ∧ p = 0
  else if k = 10 then (0 ≤ a ∧ a ≤ 4) ∧ (0 ≤ t ∧ t ≤ 4) ∧ (1 ≤ r ∧ r ≤ 1000) ∧ (0 ≤ p ∧ p ≤ 1000) ∧ s = ⟨#[]⟩
  else if k = 11 ∨ k = 12 ∨ k = 13 then (0 ≤ a ∧ a ≤ 4) ∧ (0 ≤ t ∧ t ≤ 4) ∧ (1 ≤ r ∧ r ≤ 1000) ∧ p = 0 ∧ s = ⟨#[]⟩
  else False
instance (k a t r p : Int) (s : ByteArray) : Decidable (deedP k a t r p s) := by unfold deedP; infer_instance

end Go.TL
