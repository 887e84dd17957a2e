/- Numbers and texts: the reference. Sizes of parts. No conditions but those that are written. -/
import Derived.Test.YtjpgfcmkdlnocaaGreatDoorA1
namespace Go.TL
set_option linter.unusedSimpArgs false
open Go.Proofs Go.RowKit
attribute [local irreducible] wpOpsT wpT EndT Ex.seq Ex.block W

/-- How many parts a size has. -/
def partsN (n : Int) : Int := if 0 ≤ n ∧ n ≤ 1000 then (n + 15) / 16 else -1
theorem partsN_b (n : Int) : -1 ≤ partsN n ∧ partsN n ≤ 63 := by unfold partsN; split <;> omega

set_option maxHeartbeats 4000000 in
theorem impl_PartsOf (n : Int) : CallsT Tryz.prog [] F.impl_PartsOf [.v (.int .i64 n)] (.v (.int .i64 (partsN n))) [] := by
  refine fnT C.impl_PartsOf ?_
  refine run ?_
  refine r_ifd (fun h => ?_) (fun h => ?_)
  · rw [show partsN n = -1 from if_neg h]
    refine run ?_
    exact r_end [] []
  · rw [show partsN n = (n + 16 - 1) / 16 by rw [show n + 16 - 1 = n + 15 by omega]; exact if_pos (Decidable.not_not.1 h)]
    have h := Decidable.not_not.1 h
    refine run ?_
    exact r_end [] []
instance (n : Int) : Con Tryz.prog F.impl_PartsOf [.v (.int .i64 n)] True (.v (.int .i64 (partsN n))) [] := ⟨fun _ => impl_PartsOf n⟩

set_option maxHeartbeats 4000000 in
theorem spec_PartsOf (n : Int) : CallsT Tryz.prog [] F.spec_PartsOf [.v (.int .i64 n)] (.v (.int .i64 (partsN n))) [] := by
  refine fnT C.spec_PartsOf ?_
  refine run ?_
  refine r_ifd (fun h => ?_) (fun h => ?_)
  · rw [show partsN n = -1 from if_neg h]
    refine run ?_
    exact r_end [] []
  · rw [show partsN n = (n + 16 - 1) / 16 by rw [show n + 16 - 1 = n + 15 by omega]; exact if_pos (Decidable.not_not.1 h)]
    have h := Decidable.not_not.1 h
    refine run ?_
    exact r_end [] []
instance (n : Int) : Con Tryz.prog F.spec_PartsOf [.v (.int .i64 n)] True (.v (.int .i64 (partsN n))) [] := ⟨fun _ => spec_PartsOf n⟩

end Go.TL
