/- Members, flights, fleets: printed by a program of this work. No conditions but those that are written. -/
import Derived.Test.YthkahdjgkcccgaaE2
import Derived.Test.YthkahdjgkcccgaaA6
namespace Go.TL
set_option linter.unusedSimpArgs false
open Go.Proofs Go.RowKit
attribute [local irreducible] wpOpsT wpT EndT Ex.seq Ex.block W

structure MemberV where
  up : Bool
  disk : DiskV
  raft : RaftV
  applied : Int
  roll : RollV
  helds : List HeldV
instance : Inhabited MemberV := ⟨⟨false, default, default, 0, default, []⟩⟩
def memberC (x : MemberV) : List T := [.v (.bool (decide (x.up = true))), .v (.int .i64 x.disk.room), .sl false 0 x.disk.files.length 3 (rowT fileC x.disk.files), .v (.int .i64 x.raft.id), .v (.int .i64 x.raft.of), .v (.int .i64 x.raft.role), .v (.int .i64 x.raft.commit), .v (.int .i64 x.raft.hard.term), .v (.int .i64 x.raft.hard.vote), .sl false 0 x.raft.hard.log.length 6 (rowT entryC x.raft.hard.log), .sl false 0 x.raft.yes.length 1 (rowT i64C x.raft.yes), .sl false 0 x.raft.next.length 1 (rowT i64C x.raft.next), .sl false 0 x.raft.mtch.length 1 (rowT i64C x.raft.mtch), .v (.int .i64 x.applied), .v (.int .i64 x.roll.of), .sl false 0 x.roll.rels.length 5 (rowT relC x.roll.rels), .v (.int .i64 x.roll.act), .sl false 0 x.roll.order.length 1 (rowT i64C x.roll.order), .sl false 0 x.helds.length 4 (rowT heldC x.helds)]
instance : RowE memberC 19 := ⟨⟨fun _ => rfl, fun _ => rfl⟩⟩
instance : RowF memberC := ⟨fun _ => rfl⟩
attribute [go_sem] memberC
def totMember (disk_files : List FileV) (raft_hard_log : List EntryV) (raft_yes : List Int) (raft_next : List Int) (raft_mtch : List Int) (roll_rels : List RelV) (roll_order : List Int) (helds : List HeldV) : Int := totDisk disk_files + totRaft raft_hard_log raft_yes raft_next raft_mtch + totRoll roll_rels roll_order + totHS helds
def bndMember (disk_files : List FileV) (raft_hard_log : List EntryV) (raft_yes : List Int) (raft_next : List Int) (raft_mtch : List Int) (roll_rels : List RelV) (roll_order : List Int) (helds : List HeldV) : Prop := bndDisk disk_files ∧ bndRaft raft_hard_log raft_yes raft_next raft_mtch ∧ bndRoll roll_rels roll_order ∧ bndHS helds
theorem totMember_nn (disk_files : List FileV) (raft_hard_log : List EntryV) (raft_yes : List Int) (raft_next : List Int) (raft_mtch : List Int) (roll_rels : List RelV) (roll_order : List Int) (helds : List HeldV) : 0 ≤ totMember disk_files raft_hard_log raft_yes raft_next raft_mtch roll_rels roll_order helds := by
  have h0 := totDisk_nn disk_files
  have h1 := totRaft_nn raft_hard_log raft_yes raft_next raft_mtch
  have h2 := totRoll_nn roll_rels roll_order
  have h3 := totHS_nn helds
  unfold totMember; omega
def totMemberV (x : MemberV) : Int := totMember x.disk.files x.raft.hard.log x.raft.yes x.raft.next x.raft.mtch x.roll.rels x.roll.order x.helds
def bndMemberV (x : MemberV) : Prop := bndMember x.disk.files x.raft.hard.log x.raft.yes x.raft.next x.raft.mtch x.roll.rels x.roll.order x.helds
theorem totMemberV_nn (x : MemberV) : 0 ≤ totMemberV x := totMember_nn x.disk.files x.raft.hard.log x.raft.yes x.raft.next x.raft.mtch x.roll.rels x.roll.order x.helds

set_option maxHeartbeats 4000000 in
theorem laws_eqMember (k0 : Nat) (k1 : Nat) (k2 : Nat) (k3 : Nat) (k4 : Nat) (k5 : Nat) (k6 : Nat) (k7 : Nat) (q0 : Nat) (q1 : Nat) (q2 : Nat) (q3 : Nat) (q4 : Nat) (q5 : Nat) (q6 : Nat) (q7 : Nat) (up : Prop) [Decidable up] (disk_room : Int) (disk_files : List FileV) (raft_id : Int) (raft_of : Int) (raft_role : Int) (raft_commit : Int) (raft_hard_term : Int) (raft_hard_vote : Int) (raft_hard_log : List EntryV) (raft_yes : List Int) (raft_next : List Int) (raft_mtch : List Int) (applied : Int) (roll_of : Int) (roll_rels : List RelV) (roll_act : Int) (roll_order : List Int) (helds : List HeldV) (hpre : bndMember disk_files raft_hard_log raft_yes raft_next raft_mtch roll_rels roll_order helds) : CallsT Try.prog [] F.laws_eqMember [.agg [.v (.bool (decide up)), .v (.int .i64 disk_room), .sl false k0 disk_files.length 3 (rowT fileC disk_files), .v (.int .i64 raft_id), .v (.int .i64 raft_of), .v (.int .i64 raft_role), .v (.int .i64 raft_commit), .v (.int .i64 raft_hard_term), .v (.int .i64 raft_hard_vote), .sl false k1 raft_hard_log.length 6 (rowT entryC raft_hard_log), .sl false k2 raft_yes.length 1 (rowT i64C raft_yes), .sl false k3 raft_next.length 1 (rowT i64C raft_next), .sl false k4 raft_mtch.length 1 (rowT i64C raft_mtch), .v (.int .i64 applied), .v (.int .i64 roll_of), .sl false k5 roll_rels.length 5 (rowT relC roll_rels), .v (.int .i64 roll_act), .sl false k6 roll_order.length 1 (rowT i64C roll_order), .sl false k7 helds.length 4 (rowT heldC helds)], .agg [.v (.bool (decide up)), .v (.int .i64 disk_room), .sl false q0 disk_files.length 3 (rowT fileC disk_files), .v (.int .i64 raft_id), .v (.int .i64 raft_of), .v (.int .i64 raft_role), .v (.int .i64 raft_commit), .v (.int .i64 raft_hard_term), .v (.int .i64 raft_hard_vote), .sl false q1 raft_hard_log.length 6 (rowT entryC raft_hard_log), .sl false q2 raft_yes.length 1 (rowT i64C raft_yes), .sl false q3 raft_next.length 1 (rowT i64C raft_next), .sl false q4 raft_mtch.length 1 (rowT i64C raft_mtch), .v (.int .i64 applied), .v (.int .i64 roll_of), .sl false q5 roll_rels.length 5 (rowT relC roll_rels), .v (.int .i64 roll_act), .sl false q6 roll_order.length 1 (rowT i64C roll_order), .sl false q7 helds.length 4 (rowT heldC helds)]] (.v (.bool true)) [] := by
  refine fnT C.laws_eqMember ?_
  obtain ⟨hb0, hb1, hb2, hb3⟩ := hpre
  refine run ?_
  exact r_end [] []
instance (k0 : Nat) (k1 : Nat) (k2 : Nat) (k3 : Nat) (k4 : Nat) (k5 : Nat) (k6 : Nat) (k7 : Nat) (q0 : Nat) (q1 : Nat) (q2 : Nat) (q3 : Nat) (q4 : Nat) (q5 : Nat) (q6 : Nat) (q7 : Nat) (up : Prop) [Decidable up] (disk_room : Int) (disk_files : List FileV) (raft_id : Int) (raft_of : Int) (raft_role : Int) (raft_commit : Int) (raft_hard_term : Int) (raft_hard_vote : Int) (raft_hard_log : List EntryV) (raft_yes : List Int) (raft_next : List Int) (raft_mtch : List Int) (applied : Int) (roll_of : Int) (roll_rels : List RelV) (roll_act : Int) (roll_order : List Int) (helds : List HeldV) : Con Try.prog F.laws_eqMember [.agg [.v (.bool (decide up)), .v (.int .i64 disk_room), .sl false k0 disk_files.length 3 (rowT fileC disk_files), .v (.int .i64 raft_id), .v (.int .i64 raft_of), .v (.int .i64 raft_role), .v (.int .i64 raft_commit), .v (.int .i64 raft_hard_term), .v (.int .i64 raft_hard_vote), .sl false k1 raft_hard_log.length 6 (rowT entryC raft_hard_log), .sl false k2 raft_yes.length 1 (rowT i64C raft_yes), .sl false k3 raft_next.length 1 (rowT i64C raft_next), .sl false k4 raft_mtch.length 1 (rowT i64C raft_mtch), .v (.int .i64 applied), .v (.int .i64 roll_of), .sl false k5 roll_rels.length 5 (rowT relC roll_rels), .v (.int .i64 roll_act), .sl false k6 roll_order.length 1 (rowT i64C roll_order), .sl false k7 helds.length 4 (rowT heldC helds)], .agg [.v (.bool (decide up)), .v (.int .i64 disk_room), .sl false q0 disk_files.length 3 (rowT fileC disk_files), .v (.int .i64 raft_id), .v (.int .i64 raft_of), .v (.int .i64 raft_role), .v (.int .i64 raft_commit), .v (.int .i64 raft_hard_term), .v (.int .i64 raft_hard_vote), .sl false q1 raft_hard_log.length 6 (rowT entryC raft_hard_log), .sl false q2 raft_yes.length 1 (rowT i64C raft_yes), .sl false q3 raft_next.length 1 (rowT i64C raft_next), .sl false q4 raft_mtch.length 1 (rowT i64C raft_mtch), .v (.int .i64 applied), .v (.int .i64 roll_of), .sl false q5 roll_rels.length 5 (rowT relC roll_rels), .v (.int .i64 roll_act), .sl false q6 roll_order.length 1 (rowT i64C roll_order), .sl false q7 helds.length 4 (rowT heldC helds)]] (bndMember disk_files raft_hard_log raft_yes raft_next raft_mtch roll_rels roll_order helds) (.v (.bool true)) [] := ⟨fun h => laws_eqMember k0 k1 k2 k3 k4 k5 k6 k7 q0 q1 q2 q3 q4 q5 q6 q7 up disk_room disk_files raft_id raft_of raft_role raft_commit raft_hard_term raft_hard_vote raft_hard_log raft_yes raft_next raft_mtch applied roll_of roll_rels roll_act roll_order helds h⟩

def totMemberS (l : List MemberV) : Int := l.length + sumI totMemberV l
def bndMemberS (l : List MemberV) : Prop := l.length * 280 ≤ 140737488351232 ∧ ∀ x ∈ l, bndMemberV x
theorem totMemberS_nn (l : List MemberV) : 0 ≤ totMemberS l := by have := sum_nn totMemberV_nn l; unfold totMemberS; omega

def zMemberC (_ : Unit) : List T := [.v (.bool false), .v (.int .i64 0), .v (.slice none 0 0), .v (.int .i64 0), .v (.int .i64 0), .v (.int .i64 0), .v (.int .i64 0), .v (.int .i64 0), .v (.int .i64 0), .v (.slice none 0 0), .v (.slice none 0 0), .v (.slice none 0 0), .v (.slice none 0 0), .v (.int .i64 0), .v (.int .i64 0), .v (.slice none 0 0), .v (.int .i64 0), .v (.slice none 0 0), .v (.slice none 0 0)]
instance : RowE zMemberC 19 := ⟨⟨fun _ => rfl, fun _ => rfl⟩⟩
@[go_sem] theorem mkR_member (n : Nat) : mkR [.v (.bool false), .v (.int .i64 0), .v (.slice none 0 0), .v (.int .i64 0), .v (.int .i64 0), .v (.int .i64 0), .v (.int .i64 0), .v (.int .i64 0), .v (.int .i64 0), .v (.slice none 0 0), .v (.slice none 0 0), .v (.slice none 0 0), .v (.slice none 0 0), .v (.int .i64 0), .v (.int .i64 0), .v (.slice none 0 0), .v (.int .i64 0), .v (.slice none 0 0), .v (.slice none 0 0)] n = ((List.replicate n ()).length, rowT zMemberC (List.replicate n ())) := mkR_enc zMemberC () n
theorem wk_member (n : Nat) : Wks (rowT zMemberC (List.replicate n ())) (rowT memberC (List.replicate n default)) := by
  have := Wks.row (e1 := zMemberC) (e2 := memberC) (fun _ => (default : MemberV)) (fun _ => .cons (.bF Bool.false_ne_true) (.cons (.refl _) (.cons (.nil _ _) (.cons (.refl _) (.cons (.refl _) (.cons (.refl _) (.cons (.refl _) (.cons (.refl _) (.cons (.refl _) (.cons (.nil _ _) (.cons (.nil _ _) (.cons (.nil _ _) (.cons (.nil _ _) (.cons (.refl _) (.cons (.refl _) (.cons (.nil _ _) (.cons (.refl _) (.cons (.nil _ _) (.cons (.nil _ _) .nil))))))))))))))))))) (List.replicate n ())
  rwa [List.map_replicate] at this

set_option maxHeartbeats 4000000 in
theorem laws_eqMemberS (k k2 : Nat) (l : List MemberV) (hpre : bndMemberS l) : CallsT Try.prog [] F.laws_eqMemberS [.sl false k l.length 19 (rowT memberC l), .sl false k2 l.length 19 (rowT memberC l)] (.v (.bool true)) [] := by
  refine fnT C.laws_eqMemberS ?_
  obtain ⟨hb1, hb2⟩ := hpre
  refine run ?_
  refine r_for l.length (fun i => [(0, .sl false k l.length 19 (rowT memberC l)), (1, .sl false k2 l.length 19 (rowT memberC l)), (5, .v (.int .i64 i))]) (fun _ => []) (fun _ => True) [] [] trivial Gc.of (fun i hi _ => ?_) (fun _ => ?_)
  · have hs1 : bndMember (nth l i).disk.files (nth l i).raft.hard.log (nth l i).raft.yes (nth l i).raft.next (nth l i).raft.mtch (nth l i).roll.rels (nth l i).roll.order (nth l i).helds := hb2 _ (nth_mem hi)
    refine run ?_
    exact ⟨[], [], Gc.of, trivial⟩
  · refine run ?_
    exact r_end [] []
instance (k k2 : Nat) (l : List MemberV) : Con Try.prog F.laws_eqMemberS [.sl false k l.length 19 (rowT memberC l), .sl false k2 l.length 19 (rowT memberC l)] (bndMemberS l) (.v (.bool true)) [] := ⟨fun h => laws_eqMemberS k k2 l h⟩

structure FlightV where
  to : Int
  bytes : ByteArray
instance : Inhabited FlightV := ⟨⟨0, ⟨#[]⟩⟩⟩
def flightC (x : FlightV) : List T := [.v (.int .i64 x.to), .v (.string x.bytes)]
instance : RowE flightC 2 := ⟨⟨fun _ => rfl, fun _ => rfl⟩⟩
instance : RowF flightC := ⟨fun _ => rfl⟩
instance : RowV flightC := ⟨fun _ => rfl⟩
attribute [go_sem] flightC
def totFlight (bytes : ByteArray) : Int := (bytes.size : Int)
def bndFlight (bytes : ByteArray) : Prop := bytes.size ≤ 140737488351232
theorem totFlight_nn (bytes : ByteArray) : 0 ≤ totFlight bytes := by
  unfold totFlight; omega
def totFlightV (x : FlightV) : Int := totFlight x.bytes
def bndFlightV (x : FlightV) : Prop := bndFlight x.bytes
theorem totFlightV_nn (x : FlightV) : 0 ≤ totFlightV x := totFlight_nn x.bytes

set_option maxHeartbeats 4000000 in
theorem laws_eqFlight (to : Int) (bytes : ByteArray) (hpre : bndFlight bytes) : CallsT Try.prog [] F.laws_eqFlight [.agg [.v (.int .i64 to), .v (.string bytes)], .agg [.v (.int .i64 to), .v (.string bytes)]] (.v (.bool true)) [] := by
  refine fnT C.laws_eqFlight ?_
  have hb0 : bytes.size ≤ 140737488351232 := hpre
  refine run ?_
  exact r_end [] []
instance (to : Int) (bytes : ByteArray) : Con Try.prog F.laws_eqFlight [.agg [.v (.int .i64 to), .v (.string bytes)], .agg [.v (.int .i64 to), .v (.string bytes)]] (bndFlight bytes) (.v (.bool true)) [] := ⟨fun h => laws_eqFlight to bytes h⟩

def totFlightS (l : List FlightV) : Int := l.length + sumI totFlightV l
def bndFlightS (l : List FlightV) : Prop := l.length * 24 ≤ 140737488351232 ∧ ∀ x ∈ l, bndFlightV x
theorem totFlightS_nn (l : List FlightV) : 0 ≤ totFlightS l := by have := sum_nn totFlightV_nn l; unfold totFlightS; omega

@[go_sem] theorem mkR_flight (n : Nat) : mkR [.v (.int .i64 0), .v (.string ⟨#[]⟩)] n = ((List.replicate n (default : FlightV)).length, rowT flightC (List.replicate n default)) := mkR_enc flightC default n

set_option maxHeartbeats 4000000 in
theorem laws_eqFlightS (k k2 : Nat) (l : List FlightV) (hpre : bndFlightS l) : CallsT Try.prog [] F.laws_eqFlightS [.sl false k l.length 2 (rowT flightC l), .sl false k2 l.length 2 (rowT flightC l)] (.v (.bool true)) [] := by
  refine fnT C.laws_eqFlightS ?_
  obtain ⟨hb1, hb2⟩ := hpre
  refine run ?_
  refine r_for l.length (fun i => [(0, .sl false k l.length 2 (rowT flightC l)), (1, .sl false k2 l.length 2 (rowT flightC l)), (5, .v (.int .i64 i))]) (fun _ => []) (fun _ => True) [] [] trivial Gc.of (fun i hi _ => ?_) (fun _ => ?_)
  · have hs1 : bndFlight (nth l i).bytes := hb2 _ (nth_mem hi)
    refine run ?_
    exact ⟨[], [], Gc.of, trivial⟩
  · refine run ?_
    exact r_end [] []
instance (k k2 : Nat) (l : List FlightV) : Con Try.prog F.laws_eqFlightS [.sl false k l.length 2 (rowT flightC l), .sl false k2 l.length 2 (rowT flightC l)] (bndFlightS l) (.v (.bool true)) [] := ⟨fun h => laws_eqFlightS k k2 l h⟩

structure FleetV where
  of : Int
  members : List MemberV
  mail : List FlightV
instance : Inhabited FleetV := ⟨⟨0, [], []⟩⟩
def fleetC (x : FleetV) : List T := [.v (.int .i64 x.of), .sl false 0 x.members.length 19 (rowT memberC x.members), .sl false 0 x.mail.length 2 (rowT flightC x.mail)]
instance : RowE fleetC 3 := ⟨⟨fun _ => rfl, fun _ => rfl⟩⟩
instance : RowF fleetC := ⟨fun _ => rfl⟩
attribute [go_sem] fleetC
def totFleet (members : List MemberV) (mail : List FlightV) : Int := totMemberS members + totFlightS mail
def bndFleet (members : List MemberV) (mail : List FlightV) : Prop := bndMemberS members ∧ bndFlightS mail
theorem totFleet_nn (members : List MemberV) (mail : List FlightV) : 0 ≤ totFleet members mail := by
  have h0 := totMemberS_nn members
  have h1 := totFlightS_nn mail
  unfold totFleet; omega
def totFleetV (x : FleetV) : Int := totFleet x.members x.mail
def bndFleetV (x : FleetV) : Prop := bndFleet x.members x.mail
theorem totFleetV_nn (x : FleetV) : 0 ≤ totFleetV x := totFleet_nn x.members x.mail

set_option maxHeartbeats 4000000 in
theorem laws_eqFleet (k0 : Nat) (k1 : Nat) (q0 : Nat) (q1 : Nat) (of : Int) (members : List MemberV) (mail : List FlightV) (hpre : bndFleet members mail) : CallsT Try.prog [] F.laws_eqFleet [.agg [.v (.int .i64 of), .sl false k0 members.length 19 (rowT memberC members), .sl false k1 mail.length 2 (rowT flightC mail)], .agg [.v (.int .i64 of), .sl false q0 members.length 19 (rowT memberC members), .sl false q1 mail.length 2 (rowT flightC mail)]] (.v (.bool true)) [] := by
  refine fnT C.laws_eqFleet ?_
  obtain ⟨hb0, hb1⟩ := hpre
  refine run ?_
  exact r_end [] []
instance (k0 : Nat) (k1 : Nat) (q0 : Nat) (q1 : Nat) (of : Int) (members : List MemberV) (mail : List FlightV) : Con Try.prog F.laws_eqFleet [.agg [.v (.int .i64 of), .sl false k0 members.length 19 (rowT memberC members), .sl false k1 mail.length 2 (rowT flightC mail)], .agg [.v (.int .i64 of), .sl false q0 members.length 19 (rowT memberC members), .sl false q1 mail.length 2 (rowT flightC mail)]] (bndFleet members mail) (.v (.bool true)) [] := ⟨fun h => laws_eqFleet k0 k1 q0 q1 of members mail h⟩

end Go.TL
