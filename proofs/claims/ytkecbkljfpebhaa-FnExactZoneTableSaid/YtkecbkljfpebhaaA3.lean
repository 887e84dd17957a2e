/- Parcels: what is right, and new ones. No conditions but those that are written. -/
import Derived.Test.YtkecbkljfpebhaaA2
import Derived.Test.YtkecbkljfpebhaaN1
namespace Go.TL
set_option linter.unusedSimpArgs false
open Go.Proofs Go.RowKit
attribute [local irreducible] wpOpsT wpT EndT Ex.seq Ex.block W

set_option maxHeartbeats 4000000 in
theorem spec_l1Min (a b : Int) : CallsT Try.prog [] F.spec_l1Min [.v (.int .i64 a), .v (.int .i64 b)] (.v (.int .i64 (min a b))) [] := by
  refine fnT C.spec_l1Min ?_
  refine run ?_
  refine r_ifd (fun h => ?_) (fun h => ?_)
  · rw [show min a b = a by omega]
    refine run ?_
    exact r_end [] []
  · rw [show min a b = b by omega]
    refine run ?_
    exact r_end [] []
instance (a b : Int) : Con Try.prog F.spec_l1Min [.v (.int .i64 a), .v (.int .i64 b)] True (.v (.int .i64 (min a b))) [] := ⟨fun _ => spec_l1Min a b⟩

/-- What a parcel must be. -/
def partP (sz : Int) (l : List ByteArray) (i : Nat) : Prop := nth l i = ⟨#[]⟩ ∨ ((nth l i).size : Int) = min 16 (sz - i * 16)
instance (sz : Int) (l : List ByteArray) (i : Nat) : Decidable (partP sz l i) := inferInstanceAs (Decidable (_ ∨ _))
def parcelP (sz : Int) (d : ByteArray) (l : List ByteArray) : Prop := (0 ≤ sz ∧ sz ≤ 1000) ∧ d.size = 32 ∧ (l.length : Int) = partsN sz ∧ ∀ i, i < l.length → partP sz l i
instance (sz : Int) (d : ByteArray) (l : List ByteArray) : Decidable (parcelP sz d l) := inferInstanceAs (Decidable (_ ∧ _))

end Go.TL
