/- Fleets: who is ahead, who leads. No conditions but those that are written. -/
import Derived.Test.YtekohallfeebeaaGreatF5
namespace Go.TL
open Go.Proofs Go.RowKit
attribute [local irreducible] wpOpsT wpT EndT Ex.seq Ex.block W

/-- The best of the first i. -/
def aheadTo (l : List MemberV) : Nat → Int
  | 0 => -1
  | i + 1 => if (nth l (i : Nat)).up = true ∧ (aheadTo l i < 0 ∨ (nth l (i : Nat)).raft.commit > (nth l (aheadTo l i)).raft.commit) then (i : Int) else aheadTo l i
theorem ahead_rng (l : List MemberV) : ∀ i : Nat, -1 ≤ aheadTo l i ∧ aheadTo l i < i
  | 0 => by simp [aheadTo]
  | i + 1 => by
    have := ahead_rng l i
    unfold aheadTo
    split <;> omega
def aheadP (of : Int) (l : List MemberV) (mail : List FlightV) : Int := if fleetP of l mail then aheadTo l l.length else -1

set_option maxHeartbeats 4000000 in
theorem impl_FleetAhead (k0 k1 : Nat) (of : Int) (l : List MemberV) (mail : List FlightV) (hpre : bndF l mail) : CallsT Tryz.prog [] F.impl_FleetAhead [.agg [.v (.int .i64 of), .sl false k0 l.length 19 (rowT memberC l), .sl false k1 mail.length 2 (rowT flightC mail)]] (.v (.int .i64 (aheadP of l mail))) [] := by
  refine fnT C.impl_FleetAhead ?_
  have hb1 := hpre.1.1.1
  refine run ?_
  refine r_ifd (fun h => ?_) (fun h => ?_)
  · rw [aheadP, if_neg h]
    refine run ?_
    exact r_end [] []
  have h := Decidable.not_not.1 h
  rw [aheadP, if_pos h]
  have hlen := h.2.1
  have hof5 : 1 ≤ of ∧ of ≤ 5 := by have := h.1; unfold ofP at this; omega
  refine run ?_
  refine r_for l.length (fun i => [(1, .ptr 0 [] 0), (3, .v (.int .i64 (aheadTo l i))), (11, .sl false k0 l.length 19 (rowT memberC l)), (12, .v (.int .i64 l.length)), (13, .v (.int .i64 i))]) (fun _ => [⟨0, true, [.v (.int .i64 of), .sl false k0 l.length 19 (rowT memberC l), .sl false k1 mail.length 2 (rowT flightC mail)]⟩]) (fun _ => True) [0] [] trivial Gc.of (fun i hi _ => ?_) (fun _ => ?_)
  · have hr := ahead_rng l i
    refine run ?_
    refine r_ifd (fun h2 => ?_) (fun h2 => ?_)
    · have e : aheadTo l (i + 1) = i := by rw [aheadTo, if_pos h2]
      rw [e]
      refine run ?_
      exact ⟨[0], [], Gc.of, trivial⟩
    · have e : aheadTo l (i + 1) = aheadTo l i := by rw [aheadTo, if_neg h2]
      rw [e]
      refine run ?_
      exact ⟨[0], [], Gc.of, trivial⟩
  · refine run ?_
    exact r_end [] []
instance (k0 k1 : Nat) (of : Int) (l : List MemberV) (mail : List FlightV) : Con Tryz.prog F.impl_FleetAhead [.agg [.v (.int .i64 of), .sl false k0 l.length 19 (rowT memberC l), .sl false k1 mail.length 2 (rowT flightC mail)]] (bndF l mail) (.v (.int .i64 (aheadP of l mail))) [] := ⟨fun h => impl_FleetAhead k0 k1 of l mail h⟩

set_option maxHeartbeats 4000000 in
theorem spec_FleetAhead (k0 k1 : Nat) (of : Int) (l : List MemberV) (mail : List FlightV) (hpre : bndF l mail) : CallsT Tryz.prog [] F.spec_FleetAhead [.agg [.v (.int .i64 of), .sl false k0 l.length 19 (rowT memberC l), .sl false k1 mail.length 2 (rowT flightC mail)]] (.v (.int .i64 (aheadP of l mail))) [] := by
  refine fnT C.spec_FleetAhead ?_
  have hb1 := hpre.1.1.1
  by_cases h : fleetP of l mail
  · rw [aheadP, if_pos h]
    have hlen := h.2.1
    have hof5 : 1 ≤ of ∧ of ≤ 5 := by have := h.1; unfold ofP at this; omega
    refine run ?_
    refine r_for l.length (fun i => [(1, .ptr 0 [] 0), (3, .v (.int .i64 (aheadTo l i))), (4, .v (.int .i64 i))]) (fun _ => [⟨0, true, [.v (.int .i64 of), .sl false k0 l.length 19 (rowT memberC l), .sl false k1 mail.length 2 (rowT flightC mail)]⟩]) (fun _ => True) [0] [] trivial Gc.of (fun i hi _ => ?_) (fun _ => ?_)
    · have hr := ahead_rng l i
      refine run ?_
      refine r_ifd (fun h2 => ?_) (fun h2 => ?_)
      · refine run ?_
        refine r_ifd (fun h2 => ?_) (fun h2 => ?_)
        · have e : aheadTo l (i + 1) = i := by rw [aheadTo, if_pos h2]
          rw [e]
          refine run ?_
          exact ⟨[0], [], Gc.of, trivial⟩
        · have e : aheadTo l (i + 1) = aheadTo l i := by rw [aheadTo, if_neg h2]
          rw [e]
          refine run ?_
          exact ⟨[0], [], Gc.of, trivial⟩
      · exact absurd ⟨by omega, h⟩ h2
    · refine run ?_
      exact r_end [] []
  · rw [aheadP, if_neg h]
    refine run ?_
    refine r_for 0 (fun i => [(1, .ptr 0 [] 0), (3, .v (.int .i64 (-1))), (4, .v (.int .i64 0))]) (fun _ => [⟨0, true, [.v (.int .i64 of), .sl false k0 l.length 19 (rowT memberC l), .sl false k1 mail.length 2 (rowT flightC mail)]⟩]) (fun _ => True) [0] [] trivial Gc.of (fun i hi _ => absurd hi (Nat.not_lt_zero _)) (fun _ => ?_)
    refine run ?_
    refine r_ifd (fun h2 => ?_) (fun h2 => ?_)
    · exact absurd h2.2 h
    · refine run ?_
      exact r_end [] []
instance (k0 k1 : Nat) (of : Int) (l : List MemberV) (mail : List FlightV) : Con Tryz.prog F.spec_FleetAhead [.agg [.v (.int .i64 of), .sl false k0 l.length 19 (rowT memberC l), .sl false k1 mail.length 2 (rowT flightC mail)]] (bndF l mail) (.v (.int .i64 (aheadP of l mail))) [] := ⟨fun h => spec_FleetAhead k0 k1 of l mail h⟩

end Go.TL
