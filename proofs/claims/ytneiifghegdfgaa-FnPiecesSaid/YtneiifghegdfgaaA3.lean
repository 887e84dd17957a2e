/- Parcels: what is right, and new ones. No conditions but those that are written. -/
import Derived.Test.YtneiifghegdfgaaA2
import Derived.Test.YtneiifghegdfgaaN1
namespace Go.TL
set_option linter.unusedSimpArgs false
open Go.Proofs Go.RowKit
attribute [local irreducible] wpOpsT wpT EndT Ex.seq Ex.block W

set_option maxHeartbeats 4000000 in
theorem impl_partLong (sz i : Int) (hpre : (-4611686018427387904 ≤ sz ∧ sz ≤ 4611686018427387904) ∧ (0 ≤ i ∧ i ≤ 100000000000000000)) : CallsT Try.prog [] F.impl_partLong [.v (.int .i64 sz), .v (.int .i64 i)] (.v (.int .i64 (min 16 (sz - i * 16)))) [] := by
  refine fnT C.impl_partLong ?_
  refine run ?_
  exact r_end [] []
instance (sz i : Int) : Con Try.prog F.impl_partLong [.v (.int .i64 sz), .v (.int .i64 i)] ((-4611686018427387904 ≤ sz ∧ sz ≤ 4611686018427387904) ∧ (0 ≤ i ∧ i ≤ 100000000000000000)) (.v (.int .i64 (min 16 (sz - i * 16)))) [] := ⟨fun h => impl_partLong sz i h⟩

set_option maxHeartbeats 4000000 in
theorem spec_l1Min (a b : Int) : CallsT Try.prog [] F.spec_l1Min [.v (.int .i64 a), .v (.int .i64 b)] (.v (.int .i64 (min a b))) [] := by
  refine fnT C.spec_l1Min ?_
  refine run ?_
  refine r_ifd (fun h => ?_) (fun h => ?_)
  · rw [show min a b = a by omega]
    refine run ?_
    exact r_end [] []
  · rw [show min a b = b by omega]
    refine run ?_
    exact r_end [] []
instance (a b : Int) : Con Try.prog F.spec_l1Min [.v (.int .i64 a), .v (.int .i64 b)] True (.v (.int .i64 (min a b))) [] := ⟨fun _ => spec_l1Min a b⟩

set_option maxHeartbeats 4000000 in
theorem spec_l9Long (sz i : Int) (hpre : (-4611686018427387904 ≤ sz ∧ sz ≤ 4611686018427387904) ∧ (0 ≤ i ∧ i ≤ 100000000000000000)) : CallsT Try.prog [] F.spec_l9Long [.v (.int .i64 sz), .v (.int .i64 i)] (.v (.int .i64 (min 16 (sz - i * 16)))) [] := by
  refine fnT C.spec_l9Long ?_
  refine run ?_
  exact r_end [] []
instance (sz i : Int) : Con Try.prog F.spec_l9Long [.v (.int .i64 sz), .v (.int .i64 i)] ((-4611686018427387904 ≤ sz ∧ sz ≤ 4611686018427387904) ∧ (0 ≤ i ∧ i ≤ 100000000000000000)) (.v (.int .i64 (min 16 (sz - i * 16)))) [] := ⟨fun h => spec_l9Long sz i h⟩

/-- What a parcel must be. -/
def partP (sz : Int) (l : List ByteArray) (i : Nat) : Prop := nth l i = ⟨#[]⟩ ∨ ((nth l i).size : Int) = min 16 (sz - i * 16)
instance (sz : Int) (l : List ByteArray) (i : Nat) : Decidable (partP sz l i) := inferInstanceAs (Decidable (_ ∨ _))
def parcelP (sz : Int) (d : ByteArray) (l : List ByteArray) : Prop := (0 ≤ sz ∧ sz ≤ 1000) ∧ d.size = 32 ∧ (l.length : Int) = partsN sz ∧ ∀ i, i < l.length → partP sz l i
instance (sz : Int) (d : ByteArray) (l : List ByteArray) : Decidable (parcelP sz d l) := inferInstanceAs (Decidable (_ ∧ _))

set_option maxHeartbeats 4000000 in
theorem impl_ParcelOk (k : Nat) (sz : Int) (d : ByteArray) (l : List ByteArray) (hpre : l.length ≤ 100000000000000000) : CallsT Try.prog [] F.impl_ParcelOk [.agg [.v (.int .i64 sz), .v (.string d), .sl false k l.length 1 (rowT strC l)]] (.v (.bool (decide (parcelP sz d l)))) [] := by
  refine fnT C.impl_ParcelOk ?_
  refine run ?_
  refine r_ifd (fun h => ?_) (fun h => ?_)
  · refine run ?_
    refine r_endF ?_
    unfold parcelP; omega
  refine run ?_
  refine r_for l.length (fun i => [(1, .ptr 0 [] 0), (25, .sl false k l.length 1 (rowT strC l)), (26, .v (.int .i64 l.length)), (27, .v (.int .i64 i))]) (fun _ => [⟨0, true, [.v (.int .i64 sz), .v (.string d), .sl false k l.length 1 (rowT strC l)]⟩]) (fun i => ∀ j, j < i → partP sz l j) [0] [] (fun j hj => absurd hj (Nat.not_lt_zero _)) Gc.of (fun i hi hv => ?_) (fun hv => ?_)
  · refine run ?_
    refine r_ifd (fun h2 => ?_) (fun h2 => ?_)
    · refine run ?_
      refine r_endF ?_
      intro hp
      have := hp.2.2.2 i hi
      unfold partP at this
      grind
    · refine run ?_
      refine ⟨[0], [], Gc.of, fun j hj => ?_⟩
      rcases Nat.lt_or_ge j i with hlt | hge
      · exact hv j hlt
      · obtain rfl : j = i := by omega
        unfold partP
        grind
  · refine run ?_
    refine r_endT ?_
    unfold parcelP
    refine ⟨by omega, by omega, by omega, hv⟩
instance (k : Nat) (sz : Int) (d : ByteArray) (l : List ByteArray) : Con Try.prog F.impl_ParcelOk [.agg [.v (.int .i64 sz), .v (.string d), .sl false k l.length 1 (rowT strC l)]] (l.length ≤ 100000000000000000) (.v (.bool (decide (parcelP sz d l)))) [] := ⟨fun h => impl_ParcelOk k sz d l h⟩

set_option maxHeartbeats 4000000 in
theorem spec_ParcelOk (k : Nat) (sz : Int) (d : ByteArray) (l : List ByteArray) (hpre : l.length ≤ 100000000000000000) : CallsT Try.prog [] F.spec_ParcelOk [.agg [.v (.int .i64 sz), .v (.string d), .sl false k l.length 1 (rowT strC l)]] (.v (.bool (decide (parcelP sz d l)))) [] := by
  refine fnT C.spec_ParcelOk ?_
  have hpb := partsN_b sz
  refine run ?_
  refine r_ifd (fun h => ?_) (fun h => ?_)
  · refine run ?_
    refine r_endF ?_
    unfold parcelP; unfold partsN at *; split at h <;> omega
  have hsz : 0 ≤ sz ∧ sz ≤ 1000 := by unfold partsN at h; split at h <;> omega
  refine run ?_
  refine r_for l.length (fun i => [(1, .ptr 0 [] 0), (3, .v (.int .i64 i))]) (fun _ => [⟨0, true, [.v (.int .i64 sz), .v (.string d), .sl false k l.length 1 (rowT strC l)]⟩]) (fun i => ∀ j, j < i → partP sz l j) [0] [] (fun j hj => absurd hj (Nat.not_lt_zero _)) Gc.of (fun i hi hv => ?_) (fun hv => ?_)
  · have hz := ba_size0 (nth l i)
    refine run ?_
    refine r_ifd (fun h2 => ?_) (fun h2 => ?_)
    · refine run ?_
      refine r_endF ?_
      intro hp
      have := hp.2.2.2 i hi
      unfold partP at this
      grind
    · refine run ?_
      refine ⟨[0], [], Gc.of, fun j hj => ?_⟩
      rcases Nat.lt_or_ge j i with hlt | hge
      · exact hv j hlt
      · obtain rfl : j = i := by omega
        unfold partP
        grind
  · refine run ?_
    refine r_endT ?_
    unfold parcelP
    refine ⟨by omega, by omega, by omega, hv⟩
instance (k : Nat) (sz : Int) (d : ByteArray) (l : List ByteArray) : Con Try.prog F.spec_ParcelOk [.agg [.v (.int .i64 sz), .v (.string d), .sl false k l.length 1 (rowT strC l)]] (l.length ≤ 100000000000000000) (.v (.bool (decide (parcelP sz d l)))) [] := ⟨fun h => spec_ParcelOk k sz d l h⟩

end Go.TL
