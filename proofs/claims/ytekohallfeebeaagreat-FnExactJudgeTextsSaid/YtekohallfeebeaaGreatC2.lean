/- What a parcel lacks. No conditions but those that are written. -/
import Derived.Test.YtekohallfeebeaaGreatC1
import Derived.Test.YtekohallfeebeaaGreatSh2
namespace Go.TL
open Go.Proofs Go.RowKit
attribute [local irreducible] wpOpsT wpT EndT Ex.seq Ex.block W

def lackL (l : List ByteArray) (n : Nat) : List Int := ((List.range n).filter fun i : Nat => decide (nth l (i : Int) = ⟨#[]⟩)).map fun i : Nat => (i : Int)
@[go_sem] theorem lack_0 (l : List ByteArray) : lackL l 0 = [] := rfl
theorem lack_yes {l : List ByteArray} {i : Nat} (h : nth l (i : Nat) = ⟨#[]⟩) : lackL l (i + 1) = lackL l i ++ [(i : Int)] := by
  unfold lackL
  rw [List.range_succ, List.filter_append, List.map_append]
  simp [h]
theorem lack_no {l : List ByteArray} {i : Nat} (h : ¬ nth l (i : Nat) = ⟨#[]⟩) : lackL l (i + 1) = lackL l i := by
  unfold lackL
  rw [List.range_succ, List.filter_append, List.map_append]
  simp [h]
theorem lack_len (l : List ByteArray) (n : Nat) : (lackL l n).length ≤ n := by
  unfold lackL
  rw [List.length_map]
  exact Nat.le_trans (List.length_filter_le ..) (by simp)
theorem lack_none {l : List ByteArray} : ∀ {n : Nat}, (lackL l n).length = 0 ↔ ∀ i, i < n → ¬ nth l (i : Nat) = ⟨#[]⟩
  | 0 => by simp [lackL]
  | n + 1 => by
    by_cases h : nth l (n : Nat) = ⟨#[]⟩
    · rw [lack_yes h]
      constructor
      · intro h2; simp at h2
      · intro h2; exact absurd h (h2 n (by omega))
    · rw [lack_no h, lack_none]
      constructor
      · intro h2 i hi
        rcases Nat.lt_or_ge i n with hlt | hge
        · exact h2 i hlt
        · obtain rfl : i = n := by omega
          exact h
      · intro h2 i hi; exact h2 i (by omega)

/-- What a parcel lacks; of a wrong one: nothing. -/
def lacksP (sz : Int) (d : ByteArray) (l : List ByteArray) : List Int := if parcelP sz d l then lackL l l.length else []

set_option maxHeartbeats 4000000 in
theorem impl_ParcelLacks (k : Nat) (sz : Int) (d : ByteArray) (l : List ByteArray) (hpre : l.length ≤ 100000000000000000) : CallsT Tryz.prog [] F.impl_ParcelLacks [.agg [.v (.int .i64 sz), .v (.string d), .sl false k l.length 1 (rowT strC l)]] (.sl false 0 (lacksP sz d l).length 1 (rowT i64C (lacksP sz d l))) [] := by
  refine fnT C.impl_ParcelLacks ?_
  refine run ?_
  refine r_ifd (fun h => ?_) (fun h => ?_)
  · rw [show lacksP sz d l = [] from if_neg h]
    refine run ?_
    exact r_end [] [0, 1]
  · have h := Decidable.not_not.1 h
    rw [show lacksP sz d l = lackL l l.length from if_pos h]
    have hl : (l.length : Int) ≤ 63 := by have := partsN_b sz; have := h.2.2.1; omega
    refine run ?_
    refine r_for l.length (fun i => [(1, .ptr 0 [] 0), (3, .ref 1 [] 0 (lackL l i).length), (12, .sl false k l.length 1 (rowT strC l)), (13, .v (.int .i64 l.length)), (14, .v (.int .i64 i))]) (fun i => [⟨0, true, [.v (.int .i64 sz), .v (.string d), .sl false k l.length 1 (rowT strC l)]⟩, ⟨1, true, rowT i64C (lackL l i)⟩]) (fun _ => True) [0, 1] [] trivial Gc.of (fun i hi _ => ?_) (fun _ => ?_)
    · have hk := lack_len l i
      refine run ?_
      refine r_ifd (fun h2 => ?_) (fun h2 => ?_)
      · refine run ?_
        rw [← lack_yes h2]
        exact ⟨[0, 3], [], Gc.of, trivial⟩
      · refine run ?_
        rw [← lack_no h2]
        exact ⟨[0, 1], [], Gc.of, trivial⟩
    · refine run ?_
      exact r_end [] [1]
instance (k : Nat) (sz : Int) (d : ByteArray) (l : List ByteArray) : Con Tryz.prog F.impl_ParcelLacks [.agg [.v (.int .i64 sz), .v (.string d), .sl false k l.length 1 (rowT strC l)]] (l.length ≤ 100000000000000000) (.sl false 0 (lacksP sz d l).length 1 (rowT i64C (lacksP sz d l))) [] := ⟨fun h => impl_ParcelLacks k sz d l h⟩

end Go.TL
