/- Helds are found by their release. No conditions but those that are written. -/
import Derived.Test.YtneiifghegdfgaaJA5A7
import Derived.Test.YtneiifghegdfgaaTClo
namespace Go.TL
set_option linter.unusedSimpArgs false
open Go.Proofs Go.RowKit
attribute [local irreducible] wpOpsT wpT EndT Ex.seq Ex.block W

def findH (l : List HeldV) (r : Int) : Int := if l.findIdx (fun h => decide (h.rel = r)) < l.length then (l.findIdx (fun h => decide (h.rel = r)) : Int) else -1
theorem find_at {l : List HeldV} {r : Int} {i : Nat} (hi : i < l.length) (h : (nth l i).rel = r) (hv : ∀ j, j < i → (nth l j).rel ≠ r) : findH l r = i := by
  have e : l.findIdx (fun h => decide (h.rel = r)) = i := by
    rw [List.findIdx_eq hi]
    rw [nth_nat hi] at h
    refine ⟨by simpa using h, fun j hj => ?_⟩
    have := hv j hj
    rw [nth_nat (by omega)] at this
    simpa using this
  unfold findH
  rw [e, if_pos hi]
theorem find_no {l : List HeldV} {r : Int} (hv : ∀ j, j < l.length → (nth l j).rel ≠ r) : findH l r = -1 := by
  unfold findH
  rw [if_neg]
  intro h
  have h2 := List.findIdx_getElem (w := h)
  have := hv _ h
  rw [nth_nat h] at this
  simp only [decide_eq_true_eq] at h2
  exact this h2
theorem find_b (l : List HeldV) (r : Int) : -1 ≤ findH l r ∧ findH l r < l.length := by unfold findH; split <;> omega

set_option maxHeartbeats 4000000 in
theorem spec_l14Find (k : Nat) (l : List HeldV) (r : Int) (hpre : l.length ≤ 2513169434916) : CallsT Try.prog [] F.spec_l14Find [.sl false k l.length 4 (rowT heldC l), .v (.int .i64 r)] (.v (.int .i64 (findH l r))) [] := by
  refine fnT C.spec_l14Find ?_
  refine run ?_
  refine r_for l.length (fun i => [(0, .sl false k l.length 4 (rowT heldC l)), (1, .v (.int .i64 r)), (5, .v (.int .i64 i))]) (fun _ => []) (fun i => ∀ j, j < i → (nth l j).rel ≠ r) [] [] (fun j hj => absurd hj (Nat.not_lt_zero _)) Gc.of (fun i hi hv => ?_) (fun hv => ?_)
  · refine run ?_
    refine r_ifd (fun h => ?_) (fun h => ?_)
    · rw [find_at hi h hv]
      refine run ?_
      exact r_end [] []
    · refine run ?_
      refine ⟨[], [], Gc.of, fun j hj => ?_⟩
      rcases Nat.lt_or_ge j i with hlt | hge
      · exact hv j hlt
      · obtain rfl : j = i := by omega
        exact h
  · rw [find_no hv]
    refine run ?_
    exact r_end [] []
instance (k : Nat) (l : List HeldV) (r : Int) : Con Try.prog F.spec_l14Find [.sl false k l.length 4 (rowT heldC l), .v (.int .i64 r)] (l.length ≤ 2513169434916) (.v (.int .i64 (findH l r))) [] := ⟨fun h => spec_l14Find k l r h⟩

set_option maxHeartbeats 4000000 in
theorem impl_heldAt_1 (k k2 : Nat) (a sz r : Int) (d : ByteArray) (l : List ByteArray) : CallsT Try.prog [] F.impl_heldAt_1 [.agg [.v (.int .i64 a), .v (.int .i64 sz), .v (.string d), .sl false k l.length 1 (rowT strC l)], .pz k2 [.v (.int .i64 r)] 0] (.v (.bool (decide (a = r)))) [] := by
  refine fnT C.impl_heldAt_1 ?_
  refine run ?_
  exact r_end [] []
instance (k k2 : Nat) (a sz r : Int) (d : ByteArray) (l : List ByteArray) : Con Try.prog F.impl_heldAt_1 [.agg [.v (.int .i64 a), .v (.int .i64 sz), .v (.string d), .sl false k l.length 1 (rowT strC l)], .pz k2 [.v (.int .i64 r)] 0] True (.v (.bool (decide (a = r)))) [] := ⟨fun _ => impl_heldAt_1 k k2 a sz r d l⟩

set_option maxHeartbeats 4000000 in
theorem slices_IndexFunc_Held (k k2 : Nat) (l : List HeldV) (r : Int) (hpre : l.length ≤ 2513169434916) : CallsT Try.prog [] F.slices_IndexFunc_Held [.sl false k l.length 4 (rowT heldC l), .clo 239 [.pz k2 [.v (.int .i64 r)] 0]] (.v (.int .i64 (findH l r))) [] := by
  refine fnT C.slices_IndexFunc_Held ?_
  refine run ?_
  refine r_for l.length (fun i => [(0, .sl false k l.length 4 (rowT heldC l)), (1, .clo 239 [.pz k2 [.v (.int .i64 r)] 0]), (7, .v (.int .i64 l.length)), (8, .v (.int .i64 i))]) (fun _ => []) (fun i => ∀ j, j < i → (nth l j).rel ≠ r) [] [] (fun j hj => absurd hj (Nat.not_lt_zero _)) Gc.of (fun i hi hv => ?_) (fun hv => ?_)
  · refine run ?_
    refine r_clo ?_
    refine run ?_
    refine r_ifd (fun h => ?_) (fun h => ?_)
    · rw [find_at hi h hv]
      refine run ?_
      exact r_end [] []
    · refine run ?_
      refine ⟨[], [], Gc.of, fun j hj => ?_⟩
      rcases Nat.lt_or_ge j i with hlt | hge
      · exact hv j hlt
      · obtain rfl : j = i := by omega
        exact h
  · rw [find_no hv]
    refine run ?_
    exact r_end [] []
instance (k k2 : Nat) (l : List HeldV) (r : Int) : Con Try.prog F.slices_IndexFunc_Held [.sl false k l.length 4 (rowT heldC l), .clo 239 [.pz k2 [.v (.int .i64 r)] 0]] (l.length ≤ 2513169434916) (.v (.int .i64 (findH l r))) [] := ⟨fun h => slices_IndexFunc_Held k k2 l r h⟩

set_option maxHeartbeats 4000000 in
theorem impl_heldAt (k : Nat) (l : List HeldV) (r : Int) (hpre : l.length ≤ 2513169434916) : CallsT Try.prog [] F.impl_heldAt [.sl false k l.length 4 (rowT heldC l), .v (.int .i64 r)] (.v (.int .i64 (findH l r))) [] := by
  refine fnT C.impl_heldAt ?_
  refine run ?_
  exact r_end [] []
instance (k : Nat) (l : List HeldV) (r : Int) : Con Try.prog F.impl_heldAt [.sl false k l.length 4 (rowT heldC l), .v (.int .i64 r)] (l.length ≤ 2513169434916) (.v (.int .i64 (findH l r))) [] := ⟨fun h => impl_heldAt k l r h⟩

end Go.TL
