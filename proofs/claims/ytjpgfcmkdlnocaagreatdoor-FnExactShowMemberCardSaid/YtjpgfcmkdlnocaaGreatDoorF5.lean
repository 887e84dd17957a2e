/- Fleets: what is right. No conditions but those that are written. -/
import Derived.Test.YtjpgfcmkdlnocaaGreatDoorF4
namespace Go.TL
set_option linter.unusedSimpArgs false
open Go.Proofs Go.RowKit
attribute [local irreducible] wpOpsT wpT EndT Ex.seq Ex.block W

theorem sum_at {α : Type} [Inhabited α] {f : α → Int} (hf : ∀ x, 0 ≤ f x) {l : List α} {i : Nat} (h : i < l.length) : f (nth l i) ≤ sumI f l := by
  have h1 := sum_take f h
  have h2 := sum_le hf l (i + 1)
  have h3 := sum_nn hf (l.take i)
  omega

def memAt (l : List MemberV) (of : Int) (i : Nat) : Prop := memberP ((nth l (i : Nat)).up = true) (nth l (i : Nat)).disk.room (nth l (i : Nat)).disk.files (nth l (i : Nat)).raft.id (nth l (i : Nat)).raft.of (nth l (i : Nat)).raft.role (nth l (i : Nat)).raft.commit (nth l (i : Nat)).raft.hard.term (nth l (i : Nat)).raft.hard.vote (nth l (i : Nat)).raft.hard.log (nth l (i : Nat)).raft.yes (nth l (i : Nat)).raft.next (nth l (i : Nat)).raft.mtch (nth l (i : Nat)).applied (nth l (i : Nat)).roll.of (nth l (i : Nat)).roll.rels (nth l (i : Nat)).roll.act (nth l (i : Nat)).roll.order (nth l (i : Nat)).helds i of
instance (l : List MemberV) (of : Int) (i : Nat) : Decidable (memAt l of i) := by unfold memAt; infer_instance
def flightP (of : Int) (l : List FlightV) (i : Nat) : Prop := (0 ≤ (nth l (i : Nat)).to ∧ (nth l (i : Nat)).to ≤ of - 1) ∧ ((nth l (i : Nat)).bytes.size : Int) ≤ 3000
def fleetP (of : Int) (l : List MemberV) (mail : List FlightV) : Prop := ofP of ∧ (l.length : Int) = of ∧ (mail.length : Int) ≤ 60 ∧ (∀ i, i < l.length → memAt l of i) ∧ ∀ i, i < mail.length → flightP of mail i
instance (of : Int) (l : List MemberV) (mail : List FlightV) : Decidable (fleetP of l mail) := by unfold fleetP ofP flightP; infer_instance
def bndF (l : List MemberV) (mail : List FlightV) : Prop := bndFleet l mail ∧ totFleet l mail ≤ 1048576
theorem sizes_at {l : List MemberV} {mail : List FlightV} (h : totFleet l mail ≤ 1048576) {i : Nat} (hi : i < l.length) : sizesM (nth l i).disk.files (nth l i).roll.rels (nth l i).roll.order := by
  have h1 := sum_at totMemberV_nn hi
  have h2 := totFlightS_nn mail
  unfold totFleet totMemberS at h
  exact sizesM_of (by
    show totMemberV (nth l i) ≤ 1048576
    omega)
theorem bnd_at {l : List MemberV} {mail : List FlightV} (h : bndFleet l mail) {i : Nat} (hi : i < l.length) : bndMember (nth l i).disk.files (nth l i).raft.hard.log (nth l i).raft.yes (nth l i).raft.next (nth l i).raft.mtch (nth l i).roll.rels (nth l i).roll.order (nth l i).helds := h.1.2 _ (nth_mem hi)

set_option maxHeartbeats 4000000 in
theorem impl_FleetOk (k0 k1 : Nat) (of : Int) (l : List MemberV) (mail : List FlightV) (hpre : bndF l mail) : CallsT Tryz.prog [] F.impl_FleetOk [.agg [.v (.int .i64 of), .sl false k0 l.length 19 (rowT memberC l), .sl false k1 mail.length 2 (rowT flightC mail)]] (.v (.bool (decide (fleetP of l mail)))) [] := by
  refine fnT C.impl_FleetOk ?_
  obtain ⟨hb, ht⟩ := hpre
  have hb1 := hb.1.1
  have hb2 := hb.2.1
  refine run ?_
  refine r_ifd (fun h => ?_) (fun h => ?_)
  · refine run ?_
    refine r_endF ?_
    unfold fleetP ofP
    grind
  have hof : ofP of := by unfold ofP; grind
  have hlen : (l.length : Int) = of := by grind
  have hm : (mail.length : Int) ≤ 60 := by grind
  have hof5 : 1 ≤ of ∧ of ≤ 5 := by unfold ofP at hof; omega
  refine run ?_
  refine r_for l.length (fun i => [(1, .ptr 0 [] 0), (26, .sl false k0 l.length 19 (rowT memberC l)), (27, .v (.int .i64 l.length)), (28, .v (.int .i64 i))]) (fun _ => [⟨0, true, [.v (.int .i64 of), .sl false k0 l.length 19 (rowT memberC l), .sl false k1 mail.length 2 (rowT flightC mail)]⟩]) (fun i => ∀ j, j < i → memAt l of j) [0] [] all_0 Gc.of (fun i hi hv => ?_) (fun hv => ?_)
  · have hs := sizes_at ht hi
    have hbm := bnd_at hb hi
    refine run ?_
    refine r_ifd (fun h => ?_) (fun h => ?_)
    · refine run ?_
      refine r_endF ?_
      intro hp
      exact h (hp.2.2.2.1 i hi)
    · have h := Decidable.not_not.1 h
      refine run ?_
      exact ⟨[0], [], Gc.of, all_step hv h⟩
  refine run ?_
  refine r_for mail.length (fun i => [(1, .ptr 0 [] 0), (41, .sl false k1 mail.length 2 (rowT flightC mail)), (42, .v (.int .i64 mail.length)), (43, .v (.int .i64 i))]) (fun _ => [⟨0, true, [.v (.int .i64 of), .sl false k0 l.length 19 (rowT memberC l), .sl false k1 mail.length 2 (rowT flightC mail)]⟩]) (fun i => ∀ j, j < i → flightP of mail j) [0] [] all_0 Gc.of (fun i hi hw => ?_) (fun hw => ?_)
  · refine run ?_
    refine r_ifd (fun h => ?_) (fun h => ?_)
    · refine run ?_
      refine r_endF ?_
      intro hp
      have := hp.2.2.2.2 i hi
      unfold flightP at this
      grind
    · refine run ?_
      exact ⟨[0], [], Gc.of, all_step hw (by unfold flightP; grind)⟩
  · refine run ?_
    exact r_endT ⟨hof, hlen, hm, hv, hw⟩
instance (k0 k1 : Nat) (of : Int) (l : List MemberV) (mail : List FlightV) : Con Tryz.prog F.impl_FleetOk [.agg [.v (.int .i64 of), .sl false k0 l.length 19 (rowT memberC l), .sl false k1 mail.length 2 (rowT flightC mail)]] (bndF l mail) (.v (.bool (decide (fleetP of l mail)))) [] := ⟨fun h => impl_FleetOk k0 k1 of l mail h⟩

set_option maxHeartbeats 4000000 in
theorem spec_FleetOk (k0 k1 : Nat) (of : Int) (l : List MemberV) (mail : List FlightV) (hpre : bndF l mail) : CallsT Tryz.prog [] F.spec_FleetOk [.agg [.v (.int .i64 of), .sl false k0 l.length 19 (rowT memberC l), .sl false k1 mail.length 2 (rowT flightC mail)]] (.v (.bool (decide (fleetP of l mail)))) [] := by
  refine fnT C.spec_FleetOk ?_
  obtain ⟨hb, ht⟩ := hpre
  have hb1 := hb.1.1
  have hb2 := hb.2.1
  refine run ?_
  refine r_ifd (fun h => ?_) (fun h => ?_)
  · refine run ?_
    refine r_endF ?_
    unfold fleetP ofP
    grind
  have hof : ofP of := by unfold ofP; grind
  have hlen : (l.length : Int) = of := by grind
  have hm : (mail.length : Int) ≤ 60 := by grind
  have hof5 : 1 ≤ of ∧ of ≤ 5 := by unfold ofP at hof; omega
  refine run ?_
  refine r_for l.length (fun i => [(1, .ptr 0 [] 0), (3, .v (.int .i64 i))]) (fun _ => [⟨0, true, [.v (.int .i64 of), .sl false k0 l.length 19 (rowT memberC l), .sl false k1 mail.length 2 (rowT flightC mail)]⟩]) (fun i => ∀ j, j < i → memAt l of j) [0] [] all_0 Gc.of (fun i hi hv => ?_) (fun hv => ?_)
  · have hs := sizes_at ht hi
    have hbm := bnd_at hb hi
    refine run ?_
    refine r_ifd (fun h => ?_) (fun h => ?_)
    · refine run ?_
      refine r_endF ?_
      intro hp
      exact h (hp.2.2.2.1 i hi)
    · have h := Decidable.not_not.1 h
      refine run ?_
      exact ⟨[0], [], Gc.of, all_step hv h⟩
  refine run ?_
  refine r_for mail.length (fun i => [(1, .ptr 0 [] 0), (4, .v (.int .i64 i))]) (fun _ => [⟨0, true, [.v (.int .i64 of), .sl false k0 l.length 19 (rowT memberC l), .sl false k1 mail.length 2 (rowT flightC mail)]⟩]) (fun i => ∀ j, j < i → flightP of mail j) [0] [] all_0 Gc.of (fun i hi hw => ?_) (fun hw => ?_)
  · refine run ?_
    refine r_ifd (fun h => ?_) (fun h => ?_)
    · refine run ?_
      refine r_endF ?_
      intro hp
      have := hp.2.2.2.2 i hi
      unfold flightP at this
      grind
    · refine run ?_
      exact ⟨[0], [], Gc.of, all_step hw (by unfold flightP; grind)⟩
  · refine run ?_
    exact r_endT ⟨hof, hlen, hm, hv, hw⟩
instance (k0 k1 : Nat) (of : Int) (l : List MemberV) (mail : List FlightV) : Con Tryz.prog F.spec_FleetOk [.agg [.v (.int .i64 of), .sl false k0 l.length 19 (rowT memberC l), .sl false k1 mail.length 2 (rowT flightC mail)]] (bndF l mail) (.v (.bool (decide (fleetP of l mail)))) [] := ⟨fun h => spec_FleetOk k0 k1 of l mail h⟩

end Go.TL
