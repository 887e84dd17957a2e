/- Words of 32 bits in rows: keys, first words, loads at a place. No conditions but those that are written. -/
import Derived.Test.YtdnclbghhdflmaaS1
import Derived.Test.YtdnclbghhdflmaaTGet
namespace Go.TL
open Go.Proofs Go.RowKit
attribute [local irreducible] wpOpsT wpT EndT Ex.seq Ex.block W

def keysL : List Int := [1116352408, 1899447441, 3049323471, 3921009573, 961987163, 1508970993, 2453635748, 2870763221,
    3624381080, 310598401, 607225278, 1426881987, 1925078388, 2162078206, 2614888103, 3248222580,
    3835390401, 4022224774, 264347078, 604807628, 770255983, 1249150122, 1555081692, 1996064986,
    2554220882, 2821834349, 2952996808, 3210313671, 3336571891, 3584528711, 113926993, 338241895,
    666307205, 773529912, 1294757372, 1396182291, 1695183700, 1986661051, 2177026350, 2456956037,
    2730485921, 2820302411, 3259730800, 3345764771, 3516065817, 3600352804, 4094571909, 275423344,
    430227734, 506948616, 659060556, 883997877, 958139571, 1322822218, 1537002063, 1747873779,
    1955562222, 2024104815, 2227730452, 2361852424, 2428436474, 2756734187, 3204031479, 3329325298]
def firstL : List Int := [1779033703, 3144134277, 1013904242, 2773480762, 1359893119, 2600822924, 528734635, 1541459225]

theorem load_first (r : Nat) (p : List Nat) : loadN (loadCell r p) (rowT i64C firstL) 0 8 = some (rowT i64C firstL) := rfl
theorem load_keys (r : Nat) (p : List Nat) : loadN (loadCell r p) (rowT i64C keysL) 0 64 = some (rowT i64C keysL) := by kernel_rfl
attribute [go_sem] load_first load_keys

set_option maxHeartbeats 4000000 in
theorem spec_l2Keys  : CallsT Try.prog [] F.spec_l2Keys [] (.sl false 0 keysL.length 1 (rowT i64C keysL)) [] := by
  refine fnT C.spec_l2Keys ?_
  refine r_seq ?_
  refine r_region ?_
  refine r_do ?_
  refine r_ops ?_
  refine x_seq_n ?_
  refine r_seq ?_
  refine r_region ?_
  refine r_lit (enc := i64C) (k := 0) keysL (S' := [] ++ [⟨1, true, rowT i64C keysL⟩]) ?_ (hs := by kernel_rfl)
  refine run ?_
  exact r_end [] [0]
instance  : Con Try.prog F.spec_l2Keys [] True (.sl false 0 keysL.length 1 (rowT i64C keysL)) [] := ⟨fun _ => spec_l2Keys ⟩

set_option maxHeartbeats 4000000 in
theorem impl_constants  : CallsT Try.prog [] F.impl_constants [] (.agg (rowT i64C keysL)) [] := by
  refine fnT C.impl_constants ?_
  refine r_seq ?_
  refine r_region ?_
  refine r_do (t := .ptr 0 [] 0) (S' := [⟨0, true, rowT i64C (List.replicate 64 0)⟩]) ?_ (hs := by kernel_rfl)
  refine r_ops ?_
  refine x_seq_n ?_
  refine r_seq ?_
  refine r_region ?_
  refine r_by (t := .agg (rowT i64C keysL)) (S' := [⟨0, true, rowT i64C (List.replicate 64 0)⟩]) (by kernel_rfl) ?_
  refine r_do0 (t := .dead) (S' := [⟨0, true, rowT i64C keysL⟩]) ?_ (hs := by kernel_rfl)
  refine run ?_
  exact r_end [] [] (ts := [.agg (rowT i64C keysL)]) (hr := by kernel_rfl)
instance  : Con Try.prog F.impl_constants [] True (.agg (rowT i64C keysL)) [] := ⟨fun _ => impl_constants ⟩

set_option maxHeartbeats 4000000 in
theorem impl_firstWords  : CallsT Try.prog [] F.impl_firstWords [] (.agg (rowT i64C firstL)) [] := by
  refine fnT C.impl_firstWords ?_
  refine run ?_
  refine r_by (t := .agg (rowT i64C firstL)) (S' := [⟨0, true, rowT i64C (List.replicate 8 0)⟩]) (by kernel_rfl) ?_
  refine r_do0 (t := .dead) (S' := [⟨0, true, rowT i64C firstL⟩]) ?_ (hs := by kernel_rfl)
  refine run ?_
  exact r_end [] [] (ts := [.agg (rowT i64C firstL)]) (hr := by kernel_rfl)
instance  : Con Try.prog F.impl_firstWords [] True (.agg (rowT i64C firstL)) [] := ⟨fun _ => impl_firstWords ⟩

end Go.TL
