/- New parcels. No conditions but those that are written. -/
import Derived.Test.YtkecbkljfpebhaaA3
import Derived.Test.YtkecbkljfpebhaaN1
namespace Go.TL
set_option linter.unusedSimpArgs false
open Go.Proofs Go.RowKit
attribute [local irreducible] wpOpsT wpT EndT Ex.seq Ex.block W

structure ParcelV where
  size : Int
  dig : ByteArray
  parts : List ByteArray
def newOk (sz : Int) (d : ByteArray) : Prop := (0 ≤ sz ∧ sz ≤ 1000) ∧ d.size = 32
instance (sz : Int) (d : ByteArray) : Decidable (newOk sz d) := inferInstanceAs (Decidable (_ ∧ _))
def newP (sz : Int) (d : ByteArray) : ParcelV := if newOk sz d then ⟨sz, d, List.replicate (partsN sz).toNat ⟨#[]⟩⟩ else ⟨0, ⟨#[]⟩, []⟩

theorem new_parcel (sz : Int) (d : ByteArray) : parcelP sz d (List.replicate (max (partsN sz) 0).toNat ⟨#[]⟩) ↔ newOk sz d := by
  unfold parcelP newOk
  constructor
  · intro h; exact ⟨h.1, h.2.1⟩
  · intro h
    refine ⟨h.1, h.2, ?_, fun i hi => .inl ?_⟩
    · have : 0 ≤ partsN sz := by unfold partsN; rw [if_pos h.1]; omega
      rw [List.length_replicate]; omega
    · rw [nth_nat hi, List.getElem_replicate]

/-- The part's cell and root while a new parcel grows. -/
def npC : Nat → T
  | 0 => .v (.slice none 0 0)
  | i + 1 => .ref 2 [] 0 (List.replicate (i + 1) (⟨#[]⟩ : ByteArray)).length
def npR : Nat → Store
  | 0 => []
  | i + 1 => [⟨1, true, rowT strC (List.replicate (i + 1) ⟨#[]⟩)⟩]
attribute [go_sem] npC npR

/-- A piece that tells a new parcel. -/
def pieceNewB (r sz : Int) (d : ByteArray) : ByteArray := if newOk sz d ∧ 1 ≤ r ∧ r ≤ 1000 then strOfT ([1, r, sz].flatMap (putNumL 10)) ++ d else ⟨#[]⟩

end Go.TL
