/- Members, flights, fleets: printed by a program of this work. No conditions but those that are written. -/
import Derived.Test.YtjpgfcmkdlnocaaGreatDoorE2
import Derived.Test.YtjpgfcmkdlnocaaGreatDoorA6
namespace Go.TL
set_option linter.unusedSimpArgs false
open Go.Proofs Go.RowKit
attribute [local irreducible] wpOpsT wpT EndT Ex.seq Ex.block W

structure MemberV where
  up : Bool
  disk : DiskV
  raft : RaftV
  applied : Int
  roll : RollV
  helds : List HeldV
instance : Inhabited MemberV := ⟨⟨false, default, default, 0, default, []⟩⟩
def memberC (x : MemberV) : List T := [.v (.bool (decide (x.up = true))), .v (.int .i64 x.disk.room), .sl false 0 x.disk.files.length 3 (rowT fileC x.disk.files), .v (.int .i64 x.raft.id), .v (.int .i64 x.raft.of), .v (.int .i64 x.raft.role), .v (.int .i64 x.raft.commit), .v (.int .i64 x.raft.hard.term), .v (.int .i64 x.raft.hard.vote), .sl false 0 x.raft.hard.log.length 6 (rowT entryC x.raft.hard.log), .sl false 0 x.raft.yes.length 1 (rowT i64C x.raft.yes), .sl false 0 x.raft.next.length 1 (rowT i64C x.raft.next), .sl false 0 x.raft.mtch.length 1 (rowT i64C x.raft.mtch), .v (.int .i64 x.applied), .v (.int .i64 x.roll.of), .sl false 0 x.roll.rels.length 5 (rowT relC x.roll.rels), .v (.int .i64 x.roll.act), .sl false 0 x.roll.order.length 1 (rowT i64C x.roll.order), .sl false 0 x.helds.length 4 (rowT heldC x.helds)]
instance : RowE memberC 19 := ⟨⟨fun _ => rfl, fun _ => rfl⟩⟩
instance : RowF memberC := ⟨fun _ => rfl⟩
attribute [go_sem] memberC
def totMember (disk_files : List FileV) (raft_hard_log : List EntryV) (raft_yes : List Int) (raft_next : List Int) (raft_mtch : List Int) (roll_rels : List RelV) (roll_order : List Int) (helds : List HeldV) : Int := totDisk disk_files + totRaft raft_hard_log raft_yes raft_next raft_mtch + totRoll roll_rels roll_order + totHS helds
def bndMember (disk_files : List FileV) (raft_hard_log : List EntryV) (raft_yes : List Int) (raft_next : List Int) (raft_mtch : List Int) (roll_rels : List RelV) (roll_order : List Int) (helds : List HeldV) : Prop := bndDisk disk_files ∧ bndRaft raft_hard_log raft_yes raft_next raft_mtch ∧ bndRoll roll_rels roll_order ∧ bndHS helds
theorem totMember_nn (disk_files : List FileV) (raft_hard_log : List EntryV) (raft_yes : List Int) (raft_next : List Int) (raft_mtch : List Int) (roll_rels : List RelV) (roll_order : List Int) (helds : List HeldV) : 0 ≤ totMember disk_files raft_hard_log raft_yes raft_next raft_mtch roll_rels roll_order helds := by
  have h0 := totDisk_nn disk_files
  have h1 := totRaft_nn raft_hard_log raft_yes raft_next raft_mtch
  have h2 := totRoll_nn roll_rels roll_order
  have h3 := totHS_nn helds
  unfold totMember; omega
def totMemberV (x : MemberV) : Int := totMember x.disk.files x.raft.hard.log x.raft.yes x.raft.next x.raft.mtch x.roll.rels x.roll.order x.helds
def bndMemberV (x : MemberV) : Prop := bndMember x.disk.files x.raft.hard.log x.raft.yes x.raft.next x.raft.mtch x.roll.rels x.roll.order x.helds
theorem totMemberV_nn (x : MemberV) : 0 ≤ totMemberV x := totMember_nn x.disk.files x.raft.hard.log x.raft.yes x.raft.next x.raft.mtch x.roll.rels x.roll.order x.helds

set_option maxHeartbeats 4000000 in
theorem laws_szMember (k0 : Nat) (k1 : Nat) (k2 : Nat) (k3 : Nat) (k4 : Nat) (k5 : Nat) (k6 : Nat) (k7 : Nat) (up : Prop) [Decidable up] (disk_room : Int) (disk_files : List FileV) (raft_id : Int) (raft_of : Int) (raft_role : Int) (raft_commit : Int) (raft_hard_term : Int) (raft_hard_vote : Int) (raft_hard_log : List EntryV) (raft_yes : List Int) (raft_next : List Int) (raft_mtch : List Int) (applied : Int) (roll_of : Int) (roll_rels : List RelV) (roll_act : Int) (roll_order : List Int) (helds : List HeldV) (left : Int) (hpre : bndMember disk_files raft_hard_log raft_yes raft_next raft_mtch roll_rels roll_order helds ∧ 0 ≤ left ∧ left ≤ 1048576) : CallsT Tryz.prog [] F.laws_szMember [.agg [.v (.bool (decide up)), .v (.int .i64 disk_room), .sl false k0 disk_files.length 3 (rowT fileC disk_files), .v (.int .i64 raft_id), .v (.int .i64 raft_of), .v (.int .i64 raft_role), .v (.int .i64 raft_commit), .v (.int .i64 raft_hard_term), .v (.int .i64 raft_hard_vote), .sl false k1 raft_hard_log.length 6 (rowT entryC raft_hard_log), .sl false k2 raft_yes.length 1 (rowT i64C raft_yes), .sl false k3 raft_next.length 1 (rowT i64C raft_next), .sl false k4 raft_mtch.length 1 (rowT i64C raft_mtch), .v (.int .i64 applied), .v (.int .i64 roll_of), .sl false k5 roll_rels.length 5 (rowT relC roll_rels), .v (.int .i64 roll_act), .sl false k6 roll_order.length 1 (rowT i64C roll_order), .sl false k7 helds.length 4 (rowT heldC helds)], .v (.int .i64 left)] (.v (.int .i64 (cutI (left - totMember disk_files raft_hard_log raft_yes raft_next raft_mtch roll_rels roll_order helds)))) [] := by
  refine fnT C.laws_szMember ?_
  obtain ⟨hb, hl0, hl1⟩ := hpre
  obtain ⟨hb0, hb1, hb2, hb3⟩ := hb
  have hn0 : 0 ≤ totDisk disk_files := totDisk_nn disk_files
  have hn1 : 0 ≤ totRaft raft_hard_log raft_yes raft_next raft_mtch := totRaft_nn raft_hard_log raft_yes raft_next raft_mtch
  have hn2 : 0 ≤ totRoll roll_rels roll_order := totRoll_nn roll_rels roll_order
  have hn3 : 0 ≤ totHS helds := totHS_nn helds
  refine run ?_
  refine r_ifd (fun h => ?_) (fun h => ?_)
  · have h := cutI_neg h; rw [show cutI (left - totMember disk_files raft_hard_log raft_yes raft_next raft_mtch roll_rels roll_order helds) = -1 from if_pos (by unfold totMember; omega)]
    refine run ?_
    exact r_end [] []
  obtain ⟨e0, h⟩ := cutI_nn h
  rw [e0]
  refine run ?_
  refine r_ifd (fun h => ?_) (fun h => ?_)
  · have h := cutI_neg h; rw [show cutI (left - totMember disk_files raft_hard_log raft_yes raft_next raft_mtch roll_rels roll_order helds) = -1 from if_pos (by unfold totMember; omega)]
    refine run ?_
    exact r_end [] []
  obtain ⟨e1, h⟩ := cutI_nn h
  rw [e1]
  refine run ?_
  refine r_ifd (fun h => ?_) (fun h => ?_)
  · have h := cutI_neg h; rw [show cutI (left - totMember disk_files raft_hard_log raft_yes raft_next raft_mtch roll_rels roll_order helds) = -1 from if_pos (by unfold totMember; omega)]
    refine run ?_
    exact r_end [] []
  obtain ⟨e2, h⟩ := cutI_nn h
  rw [e2]
  refine run ?_
  refine r_ifd (fun h => ?_) (fun h => ?_)
  · have h := cutI_neg h; rw [show cutI (left - totMember disk_files raft_hard_log raft_yes raft_next raft_mtch roll_rels roll_order helds) = -1 from if_pos (by unfold totMember; omega)]
    refine run ?_
    exact r_end [] []
  obtain ⟨e3, h⟩ := cutI_nn h
  rw [e3]
  rw [show cutI (left - totMember disk_files raft_hard_log raft_yes raft_next raft_mtch roll_rels roll_order helds) = left - totDisk disk_files - totRaft raft_hard_log raft_yes raft_next raft_mtch - totRoll roll_rels roll_order - totHS helds by unfold cutI totMember; rw [if_neg (by omega)] <;> omega]
  refine run ?_
  exact r_end [] []
instance (k0 : Nat) (k1 : Nat) (k2 : Nat) (k3 : Nat) (k4 : Nat) (k5 : Nat) (k6 : Nat) (k7 : Nat) (up : Prop) [Decidable up] (disk_room : Int) (disk_files : List FileV) (raft_id : Int) (raft_of : Int) (raft_role : Int) (raft_commit : Int) (raft_hard_term : Int) (raft_hard_vote : Int) (raft_hard_log : List EntryV) (raft_yes : List Int) (raft_next : List Int) (raft_mtch : List Int) (applied : Int) (roll_of : Int) (roll_rels : List RelV) (roll_act : Int) (roll_order : List Int) (helds : List HeldV) (left : Int) : Con Tryz.prog F.laws_szMember [.agg [.v (.bool (decide up)), .v (.int .i64 disk_room), .sl false k0 disk_files.length 3 (rowT fileC disk_files), .v (.int .i64 raft_id), .v (.int .i64 raft_of), .v (.int .i64 raft_role), .v (.int .i64 raft_commit), .v (.int .i64 raft_hard_term), .v (.int .i64 raft_hard_vote), .sl false k1 raft_hard_log.length 6 (rowT entryC raft_hard_log), .sl false k2 raft_yes.length 1 (rowT i64C raft_yes), .sl false k3 raft_next.length 1 (rowT i64C raft_next), .sl false k4 raft_mtch.length 1 (rowT i64C raft_mtch), .v (.int .i64 applied), .v (.int .i64 roll_of), .sl false k5 roll_rels.length 5 (rowT relC roll_rels), .v (.int .i64 roll_act), .sl false k6 roll_order.length 1 (rowT i64C roll_order), .sl false k7 helds.length 4 (rowT heldC helds)], .v (.int .i64 left)] (bndMember disk_files raft_hard_log raft_yes raft_next raft_mtch roll_rels roll_order helds ∧ 0 ≤ left ∧ left ≤ 1048576) (.v (.int .i64 (cutI (left - totMember disk_files raft_hard_log raft_yes raft_next raft_mtch roll_rels roll_order helds)))) [] := ⟨fun h => laws_szMember k0 k1 k2 k3 k4 k5 k6 k7 up disk_room disk_files raft_id raft_of raft_role raft_commit raft_hard_term raft_hard_vote raft_hard_log raft_yes raft_next raft_mtch applied roll_of roll_rels roll_act roll_order helds left h⟩

set_option maxHeartbeats 4000000 in
theorem laws_toMember (k0 : Nat) (k1 : Nat) (k2 : Nat) (k3 : Nat) (k4 : Nat) (k5 : Nat) (k6 : Nat) (k7 : Nat) (up : Prop) [Decidable up] (disk_room : Int) (disk_files : List FileV) (raft_id : Int) (raft_of : Int) (raft_role : Int) (raft_commit : Int) (raft_hard_term : Int) (raft_hard_vote : Int) (raft_hard_log : List EntryV) (raft_yes : List Int) (raft_next : List Int) (raft_mtch : List Int) (applied : Int) (roll_of : Int) (roll_rels : List RelV) (roll_act : Int) (roll_order : List Int) (helds : List HeldV) (hpre : bndMember disk_files raft_hard_log raft_yes raft_next raft_mtch roll_rels roll_order helds) : CallsT Tryz.prog [] F.laws_toMember [.agg [.v (.bool (decide up)), .v (.int .i64 disk_room), .sl false k0 disk_files.length 3 (rowT fileC disk_files), .v (.int .i64 raft_id), .v (.int .i64 raft_of), .v (.int .i64 raft_role), .v (.int .i64 raft_commit), .v (.int .i64 raft_hard_term), .v (.int .i64 raft_hard_vote), .sl false k1 raft_hard_log.length 6 (rowT entryC raft_hard_log), .sl false k2 raft_yes.length 1 (rowT i64C raft_yes), .sl false k3 raft_next.length 1 (rowT i64C raft_next), .sl false k4 raft_mtch.length 1 (rowT i64C raft_mtch), .v (.int .i64 applied), .v (.int .i64 roll_of), .sl false k5 roll_rels.length 5 (rowT relC roll_rels), .v (.int .i64 roll_act), .sl false k6 roll_order.length 1 (rowT i64C roll_order), .sl false k7 helds.length 4 (rowT heldC helds)]] (.agg [.v (.bool (decide up)), .v (.int .i64 disk_room), .sl false 0 disk_files.length 3 (rowT fileC disk_files), .v (.int .i64 raft_id), .v (.int .i64 raft_of), .v (.int .i64 raft_role), .v (.int .i64 raft_commit), .v (.int .i64 raft_hard_term), .v (.int .i64 raft_hard_vote), .sl false 0 raft_hard_log.length 6 (rowT entryC raft_hard_log), .sl false 0 raft_yes.length 1 (rowT i64C raft_yes), .sl false 0 raft_next.length 1 (rowT i64C raft_next), .sl false 0 raft_mtch.length 1 (rowT i64C raft_mtch), .v (.int .i64 applied), .v (.int .i64 roll_of), .sl false 0 roll_rels.length 5 (rowT relC roll_rels), .v (.int .i64 roll_act), .sl false 0 roll_order.length 1 (rowT i64C roll_order), .sl false 0 helds.length 4 (rowT heldC helds)]) [] := by
  refine fnT C.laws_toMember ?_
  obtain ⟨hb0, hb1, hb2, hb3⟩ := hpre
  refine run ?_
  exact r_end [] []
instance (k0 : Nat) (k1 : Nat) (k2 : Nat) (k3 : Nat) (k4 : Nat) (k5 : Nat) (k6 : Nat) (k7 : Nat) (up : Prop) [Decidable up] (disk_room : Int) (disk_files : List FileV) (raft_id : Int) (raft_of : Int) (raft_role : Int) (raft_commit : Int) (raft_hard_term : Int) (raft_hard_vote : Int) (raft_hard_log : List EntryV) (raft_yes : List Int) (raft_next : List Int) (raft_mtch : List Int) (applied : Int) (roll_of : Int) (roll_rels : List RelV) (roll_act : Int) (roll_order : List Int) (helds : List HeldV) : Con Tryz.prog F.laws_toMember [.agg [.v (.bool (decide up)), .v (.int .i64 disk_room), .sl false k0 disk_files.length 3 (rowT fileC disk_files), .v (.int .i64 raft_id), .v (.int .i64 raft_of), .v (.int .i64 raft_role), .v (.int .i64 raft_commit), .v (.int .i64 raft_hard_term), .v (.int .i64 raft_hard_vote), .sl false k1 raft_hard_log.length 6 (rowT entryC raft_hard_log), .sl false k2 raft_yes.length 1 (rowT i64C raft_yes), .sl false k3 raft_next.length 1 (rowT i64C raft_next), .sl false k4 raft_mtch.length 1 (rowT i64C raft_mtch), .v (.int .i64 applied), .v (.int .i64 roll_of), .sl false k5 roll_rels.length 5 (rowT relC roll_rels), .v (.int .i64 roll_act), .sl false k6 roll_order.length 1 (rowT i64C roll_order), .sl false k7 helds.length 4 (rowT heldC helds)]] (bndMember disk_files raft_hard_log raft_yes raft_next raft_mtch roll_rels roll_order helds) (.agg [.v (.bool (decide up)), .v (.int .i64 disk_room), .sl false 0 disk_files.length 3 (rowT fileC disk_files), .v (.int .i64 raft_id), .v (.int .i64 raft_of), .v (.int .i64 raft_role), .v (.int .i64 raft_commit), .v (.int .i64 raft_hard_term), .v (.int .i64 raft_hard_vote), .sl false 0 raft_hard_log.length 6 (rowT entryC raft_hard_log), .sl false 0 raft_yes.length 1 (rowT i64C raft_yes), .sl false 0 raft_next.length 1 (rowT i64C raft_next), .sl false 0 raft_mtch.length 1 (rowT i64C raft_mtch), .v (.int .i64 applied), .v (.int .i64 roll_of), .sl false 0 roll_rels.length 5 (rowT relC roll_rels), .v (.int .i64 roll_act), .sl false 0 roll_order.length 1 (rowT i64C roll_order), .sl false 0 helds.length 4 (rowT heldC helds)]) [] := ⟨fun h => laws_toMember k0 k1 k2 k3 k4 k5 k6 k7 up disk_room disk_files raft_id raft_of raft_role raft_commit raft_hard_term raft_hard_vote raft_hard_log raft_yes raft_next raft_mtch applied roll_of roll_rels roll_act roll_order helds h⟩

set_option maxHeartbeats 4000000 in
theorem laws_eqMember (k0 : Nat) (k1 : Nat) (k2 : Nat) (k3 : Nat) (k4 : Nat) (k5 : Nat) (k6 : Nat) (k7 : Nat) (q0 : Nat) (q1 : Nat) (q2 : Nat) (q3 : Nat) (q4 : Nat) (q5 : Nat) (q6 : Nat) (q7 : Nat) (up : Prop) [Decidable up] (disk_room : Int) (disk_files : List FileV) (raft_id : Int) (raft_of : Int) (raft_role : Int) (raft_commit : Int) (raft_hard_term : Int) (raft_hard_vote : Int) (raft_hard_log : List EntryV) (raft_yes : List Int) (raft_next : List Int) (raft_mtch : List Int) (applied : Int) (roll_of : Int) (roll_rels : List RelV) (roll_act : Int) (roll_order : List Int) (helds : List HeldV) (hpre : bndMember disk_files raft_hard_log raft_yes raft_next raft_mtch roll_rels roll_order helds) : CallsT Tryz.prog [] F.laws_eqMember [.agg [.v (.bool (decide up)), .v (.int .i64 disk_room), .sl false k0 disk_files.length 3 (rowT fileC disk_files), .v (.int .i64 raft_id), .v (.int .i64 raft_of), .v (.int .i64 raft_role), .v (.int .i64 raft_commit), .v (.int .i64 raft_hard_term), .v (.int .i64 raft_hard_vote), .sl false k1 raft_hard_log.length 6 (rowT entryC raft_hard_log), .sl false k2 raft_yes.length 1 (rowT i64C raft_yes), .sl false k3 raft_next.length 1 (rowT i64C raft_next), .sl false k4 raft_mtch.length 1 (rowT i64C raft_mtch), .v (.int .i64 applied), .v (.int .i64 roll_of), .sl false k5 roll_rels.length 5 (rowT relC roll_rels), .v (.int .i64 roll_act), .sl false k6 roll_order.length 1 (rowT i64C roll_order), .sl false k7 helds.length 4 (rowT heldC helds)], .agg [.v (.bool (decide up)), .v (.int .i64 disk_room), .sl false q0 disk_files.length 3 (rowT fileC disk_files), .v (.int .i64 raft_id), .v (.int .i64 raft_of), .v (.int .i64 raft_role), .v (.int .i64 raft_commit), .v (.int .i64 raft_hard_term), .v (.int .i64 raft_hard_vote), .sl false q1 raft_hard_log.length 6 (rowT entryC raft_hard_log), .sl false q2 raft_yes.length 1 (rowT i64C raft_yes), .sl false q3 raft_next.length 1 (rowT i64C raft_next), .sl false q4 raft_mtch.length 1 (rowT i64C raft_mtch), .v (.int .i64 applied), .v (.int .i64 roll_of), .sl false q5 roll_rels.length 5 (rowT relC roll_rels), .v (.int .i64 roll_act), .sl false q6 roll_order.length 1 (rowT i64C roll_order), .sl false q7 helds.length 4 (rowT heldC helds)]] (.v (.bool true)) [] := by
  refine fnT C.laws_eqMember ?_
  obtain ⟨hb0, hb1, hb2, hb3⟩ := hpre
  refine run ?_
  exact r_end [] []
instance (k0 : Nat) (k1 : Nat) (k2 : Nat) (k3 : Nat) (k4 : Nat) (k5 : Nat) (k6 : Nat) (k7 : Nat) (q0 : Nat) (q1 : Nat) (q2 : Nat) (q3 : Nat) (q4 : Nat) (q5 : Nat) (q6 : Nat) (q7 : Nat) (up : Prop) [Decidable up] (disk_room : Int) (disk_files : List FileV) (raft_id : Int) (raft_of : Int) (raft_role : Int) (raft_commit : Int) (raft_hard_term : Int) (raft_hard_vote : Int) (raft_hard_log : List EntryV) (raft_yes : List Int) (raft_next : List Int) (raft_mtch : List Int) (applied : Int) (roll_of : Int) (roll_rels : List RelV) (roll_act : Int) (roll_order : List Int) (helds : List HeldV) : Con Tryz.prog F.laws_eqMember [.agg [.v (.bool (decide up)), .v (.int .i64 disk_room), .sl false k0 disk_files.length 3 (rowT fileC disk_files), .v (.int .i64 raft_id), .v (.int .i64 raft_of), .v (.int .i64 raft_role), .v (.int .i64 raft_commit), .v (.int .i64 raft_hard_term), .v (.int .i64 raft_hard_vote), .sl false k1 raft_hard_log.length 6 (rowT entryC raft_hard_log), .sl false k2 raft_yes.length 1 (rowT i64C raft_yes), .sl false k3 raft_next.length 1 (rowT i64C raft_next), .sl false k4 raft_mtch.length 1 (rowT i64C raft_mtch), .v (.int .i64 applied), .v (.int .i64 roll_of), .sl false k5 roll_rels.length 5 (rowT relC roll_rels), .v (.int .i64 roll_act), .sl false k6 roll_order.length 1 (rowT i64C roll_order), .sl false k7 helds.length 4 (rowT heldC helds)], .agg [.v (.bool (decide up)), .v (.int .i64 disk_room), .sl false q0 disk_files.length 3 (rowT fileC disk_files), .v (.int .i64 raft_id), .v (.int .i64 raft_of), .v (.int .i64 raft_role), .v (.int .i64 raft_commit), .v (.int .i64 raft_hard_term), .v (.int .i64 raft_hard_vote), .sl false q1 raft_hard_log.length 6 (rowT entryC raft_hard_log), .sl false q2 raft_yes.length 1 (rowT i64C raft_yes), .sl false q3 raft_next.length 1 (rowT i64C raft_next), .sl false q4 raft_mtch.length 1 (rowT i64C raft_mtch), .v (.int .i64 applied), .v (.int .i64 roll_of), .sl false q5 roll_rels.length 5 (rowT relC roll_rels), .v (.int .i64 roll_act), .sl false q6 roll_order.length 1 (rowT i64C roll_order), .sl false q7 helds.length 4 (rowT heldC helds)]] (bndMember disk_files raft_hard_log raft_yes raft_next raft_mtch roll_rels roll_order helds) (.v (.bool true)) [] := ⟨fun h => laws_eqMember k0 k1 k2 k3 k4 k5 k6 k7 q0 q1 q2 q3 q4 q5 q6 q7 up disk_room disk_files raft_id raft_of raft_role raft_commit raft_hard_term raft_hard_vote raft_hard_log raft_yes raft_next raft_mtch applied roll_of roll_rels roll_act roll_order helds h⟩

def totMemberS (l : List MemberV) : Int := l.length + sumI totMemberV l
def bndMemberS (l : List MemberV) : Prop := l.length * 280 ≤ 140737488351232 ∧ ∀ x ∈ l, bndMemberV x
theorem totMemberS_nn (l : List MemberV) : 0 ≤ totMemberS l := by have := sum_nn totMemberV_nn l; unfold totMemberS; omega

set_option maxHeartbeats 4000000 in
theorem laws_szMemberS (k : Nat) (l : List MemberV) (left : Int) (hpre : bndMemberS l ∧ 0 ≤ left ∧ left ≤ 1048576) : CallsT Tryz.prog [] F.laws_szMemberS [.sl false k l.length 19 (rowT memberC l), .v (.int .i64 left)] (.v (.int .i64 (cutI (left - totMemberS l)))) [] := by
  refine fnT C.laws_szMemberS ?_
  obtain ⟨⟨hb1, hb2⟩, h0, h1⟩ := hpre
  have hn := sum_nn totMemberV_nn l
  refine run ?_
  refine r_ifd (fun h => ?_) (fun h => ?_)
  · rw [show cutI (left - totMemberS l) = -1 from if_pos (by unfold totMemberS; omega)]
    refine run ?_
    exact r_end [] []
  refine run ?_
  refine r_for l.length (fun i => [(0, .sl false k l.length 19 (rowT memberC l)), (1, .v (.int .i64 (left - l.length - sumI totMemberV (l.take i)))), (5, .v (.int .i64 i))]) (fun _ => []) (fun i => 0 ≤ left - l.length - sumI totMemberV (l.take i)) [] [] (by simp [sumI]; omega) Gc.of (fun i hi hv => ?_) (fun hv => ?_)
  · have hs := sum_take totMemberV hi
    have hs0 := sum_nn totMemberV_nn (l.take i)
    have hs1 : bndMember (nth l i).disk.files (nth l i).raft.hard.log (nth l i).raft.yes (nth l i).raft.next (nth l i).raft.mtch (nth l i).roll.rels (nth l i).roll.order (nth l i).helds := hb2 _ (nth_mem hi)
    have hs2 := sum_le totMemberV_nn l (i + 1)
    have hs3 : totMember (nth l i).disk.files (nth l i).raft.hard.log (nth l i).raft.yes (nth l i).raft.next (nth l i).raft.mtch (nth l i).roll.rels (nth l i).roll.order (nth l i).helds = totMemberV (nth l i) := rfl
    refine run ?_
    have e : left - l.length - sumI totMemberV (l.take i) - totMemberV (nth l i) = left - l.length - sumI totMemberV (l.take (i + 1)) := by omega
    rw [hs3, e]
    refine r_ifd (fun h => ?_) (fun h => ?_)
    · have h := cutI_neg h
      rw [show cutI (left - totMemberS l) = -1 from if_pos (by unfold totMemberS; omega)]
      refine run ?_
      exact r_end [] []
    · obtain ⟨e1, h2⟩ := cutI_nn h
      rw [e1]
      refine run ?_
      exact ⟨[], [], Gc.of, h2⟩
  · rw [show cutI (left - totMemberS l) = left - l.length - sumI totMemberV (l.take l.length) by rw [List.take_length] at *; unfold cutI totMemberS; rw [if_neg (by omega)] <;> omega]
    refine run ?_
    exact r_end [] []
instance (k : Nat) (l : List MemberV) (left : Int) : Con Tryz.prog F.laws_szMemberS [.sl false k l.length 19 (rowT memberC l), .v (.int .i64 left)] (bndMemberS l ∧ 0 ≤ left ∧ left ≤ 1048576) (.v (.int .i64 (cutI (left - totMemberS l)))) [] := ⟨fun h => laws_szMemberS k l left h⟩

def zMemberC (_ : Unit) : List T := [.v (.bool false), .v (.int .i64 0), .v (.slice none 0 0), .v (.int .i64 0), .v (.int .i64 0), .v (.int .i64 0), .v (.int .i64 0), .v (.int .i64 0), .v (.int .i64 0), .v (.slice none 0 0), .v (.slice none 0 0), .v (.slice none 0 0), .v (.slice none 0 0), .v (.int .i64 0), .v (.int .i64 0), .v (.slice none 0 0), .v (.int .i64 0), .v (.slice none 0 0), .v (.slice none 0 0)]
instance : RowE zMemberC 19 := ⟨⟨fun _ => rfl, fun _ => rfl⟩⟩
@[go_sem] theorem mkR_member (n : Nat) : mkR [.v (.bool false), .v (.int .i64 0), .v (.slice none 0 0), .v (.int .i64 0), .v (.int .i64 0), .v (.int .i64 0), .v (.int .i64 0), .v (.int .i64 0), .v (.int .i64 0), .v (.slice none 0 0), .v (.slice none 0 0), .v (.slice none 0 0), .v (.slice none 0 0), .v (.int .i64 0), .v (.int .i64 0), .v (.slice none 0 0), .v (.int .i64 0), .v (.slice none 0 0), .v (.slice none 0 0)] n = ((List.replicate n ()).length, rowT zMemberC (List.replicate n ())) := mkR_enc zMemberC () n
theorem wk_member (n : Nat) : Wks (rowT zMemberC (List.replicate n ())) (rowT memberC (List.replicate n default)) := by
  have := Wks.row (e1 := zMemberC) (e2 := memberC) (fun _ => (default : MemberV)) (fun _ => .cons (.bF Bool.false_ne_true) (.cons (.refl _) (.cons (.nil _ _) (.cons (.refl _) (.cons (.refl _) (.cons (.refl _) (.cons (.refl _) (.cons (.refl _) (.cons (.refl _) (.cons (.nil _ _) (.cons (.nil _ _) (.cons (.nil _ _) (.cons (.nil _ _) (.cons (.refl _) (.cons (.refl _) (.cons (.nil _ _) (.cons (.refl _) (.cons (.nil _ _) (.cons (.nil _ _) .nil))))))))))))))))))) (List.replicate n ())
  rwa [List.map_replicate] at this

set_option maxHeartbeats 4000000 in
theorem laws_toMemberS (k : Nat) (l : List MemberV) (hpre : bndMemberS l) : CallsT Tryz.prog [] F.laws_toMemberS [.sl false k l.length 19 (rowT memberC l)] (.sl false 0 l.length 19 (rowT memberC l)) [] := by
  refine fnT C.laws_toMemberS ?_
  obtain ⟨hb1, hb2⟩ := hpre
  have hwk := wk_member l.length
  refine run ?_
  rw [Int.toNat_natCast, List.length_replicate]
  refine r_for l.length (fun i => [(0, .sl false k l.length 19 (rowT memberC l)), (3, .ref 0 [] 0 l.length), (4, .v (.int .i64 i))]) (fun i => [⟨19, true, rowT memberC (l.take i ++ (List.replicate l.length default).drop i)⟩]) (fun _ => True) [0] [] trivial Gc.of (fun i hi _ => ?_) (fun _ => ?_)
  · have hs1 : bndMember (nth l i).disk.files (nth l i).raft.hard.log (nth l i).raft.yes (nth l i).raft.next (nth l i).raft.mtch (nth l i).roll.rels (nth l i).roll.order (nth l i).helds := hb2 _ (nth_mem hi)
    refine run ?_
    refine r_sto (enc := memberC) _ i (nth l i) ?_
    rw [set_mix hi (by simp)]
    refine run ?_
    exact ⟨[0], [], Gc.of, trivial⟩
  · rw [List.take_length, List.drop_of_length_le (by simp), List.append_nil]
    refine run ?_
    exact r_end [] [0]
instance (k : Nat) (l : List MemberV) : Con Tryz.prog F.laws_toMemberS [.sl false k l.length 19 (rowT memberC l)] (bndMemberS l) (.sl false 0 l.length 19 (rowT memberC l)) [] := ⟨fun h => laws_toMemberS k l h⟩

set_option maxHeartbeats 4000000 in
theorem laws_eqMemberS (k k2 : Nat) (l : List MemberV) (hpre : bndMemberS l) : CallsT Tryz.prog [] F.laws_eqMemberS [.sl false k l.length 19 (rowT memberC l), .sl false k2 l.length 19 (rowT memberC l)] (.v (.bool true)) [] := by
  refine fnT C.laws_eqMemberS ?_
  obtain ⟨hb1, hb2⟩ := hpre
  refine run ?_
  refine r_for l.length (fun i => [(0, .sl false k l.length 19 (rowT memberC l)), (1, .sl false k2 l.length 19 (rowT memberC l)), (5, .v (.int .i64 i))]) (fun _ => []) (fun _ => True) [] [] trivial Gc.of (fun i hi _ => ?_) (fun _ => ?_)
  · have hs1 : bndMember (nth l i).disk.files (nth l i).raft.hard.log (nth l i).raft.yes (nth l i).raft.next (nth l i).raft.mtch (nth l i).roll.rels (nth l i).roll.order (nth l i).helds := hb2 _ (nth_mem hi)
    refine run ?_
    exact ⟨[], [], Gc.of, trivial⟩
  · refine run ?_
    exact r_end [] []
instance (k k2 : Nat) (l : List MemberV) : Con Tryz.prog F.laws_eqMemberS [.sl false k l.length 19 (rowT memberC l), .sl false k2 l.length 19 (rowT memberC l)] (bndMemberS l) (.v (.bool true)) [] := ⟨fun h => laws_eqMemberS k k2 l h⟩

structure FlightV where
  to : Int
  bytes : ByteArray
instance : Inhabited FlightV := ⟨⟨0, ⟨#[]⟩⟩⟩
def flightC (x : FlightV) : List T := [.v (.int .i64 x.to), .v (.string x.bytes)]
instance : RowE flightC 2 := ⟨⟨fun _ => rfl, fun _ => rfl⟩⟩
instance : RowF flightC := ⟨fun _ => rfl⟩
instance : RowV flightC := ⟨fun _ => rfl⟩
attribute [go_sem] flightC
def totFlight (bytes : ByteArray) : Int := (bytes.size : Int)
def bndFlight (bytes : ByteArray) : Prop := bytes.size ≤ 140737488351232
theorem totFlight_nn (bytes : ByteArray) : 0 ≤ totFlight bytes := by
  unfold totFlight; omega
def totFlightV (x : FlightV) : Int := totFlight x.bytes
def bndFlightV (x : FlightV) : Prop := bndFlight x.bytes
theorem totFlightV_nn (x : FlightV) : 0 ≤ totFlightV x := totFlight_nn x.bytes

set_option maxHeartbeats 4000000 in
theorem laws_szFlight (to : Int) (bytes : ByteArray) (left : Int) (hpre : bndFlight bytes ∧ 0 ≤ left ∧ left ≤ 1048576) : CallsT Tryz.prog [] F.laws_szFlight [.agg [.v (.int .i64 to), .v (.string bytes)], .v (.int .i64 left)] (.v (.int .i64 (cutI (left - totFlight bytes)))) [] := by
  refine fnT C.laws_szFlight ?_
  obtain ⟨hb, hl0, hl1⟩ := hpre
  have hb0 : bytes.size ≤ 140737488351232 := hb
  have hn0 : 0 ≤ (bytes.size : Int) := by omega
  refine run ?_
  refine r_ifd (fun h => ?_) (fun h => ?_)
  · rw [show cutI (left - totFlight bytes) = -1 from if_pos (by unfold totFlight; omega)]
    refine run ?_
    exact r_end [] []
  rw [show cutI (left - totFlight bytes) = left - (bytes.size : Int) by unfold cutI totFlight; rw [if_neg (by omega)] <;> omega]
  refine run ?_
  exact r_end [] []
instance (to : Int) (bytes : ByteArray) (left : Int) : Con Tryz.prog F.laws_szFlight [.agg [.v (.int .i64 to), .v (.string bytes)], .v (.int .i64 left)] (bndFlight bytes ∧ 0 ≤ left ∧ left ≤ 1048576) (.v (.int .i64 (cutI (left - totFlight bytes)))) [] := ⟨fun h => laws_szFlight to bytes left h⟩

set_option maxHeartbeats 4000000 in
theorem laws_toFlight (to : Int) (bytes : ByteArray) (hpre : bndFlight bytes) : CallsT Tryz.prog [] F.laws_toFlight [.agg [.v (.int .i64 to), .v (.string bytes)]] (.agg [.v (.int .i64 to), .v (.string bytes)]) [] := by
  refine fnT C.laws_toFlight ?_
  have hb0 : bytes.size ≤ 140737488351232 := hpre
  refine run ?_
  exact r_end [] []
instance (to : Int) (bytes : ByteArray) : Con Tryz.prog F.laws_toFlight [.agg [.v (.int .i64 to), .v (.string bytes)]] (bndFlight bytes) (.agg [.v (.int .i64 to), .v (.string bytes)]) [] := ⟨fun h => laws_toFlight to bytes h⟩

set_option maxHeartbeats 4000000 in
theorem laws_eqFlight (to : Int) (bytes : ByteArray) (hpre : bndFlight bytes) : CallsT Tryz.prog [] F.laws_eqFlight [.agg [.v (.int .i64 to), .v (.string bytes)], .agg [.v (.int .i64 to), .v (.string bytes)]] (.v (.bool true)) [] := by
  refine fnT C.laws_eqFlight ?_
  have hb0 : bytes.size ≤ 140737488351232 := hpre
  refine run ?_
  exact r_end [] []
instance (to : Int) (bytes : ByteArray) : Con Tryz.prog F.laws_eqFlight [.agg [.v (.int .i64 to), .v (.string bytes)], .agg [.v (.int .i64 to), .v (.string bytes)]] (bndFlight bytes) (.v (.bool true)) [] := ⟨fun h => laws_eqFlight to bytes h⟩

def totFlightS (l : List FlightV) : Int := l.length + sumI totFlightV l
def bndFlightS (l : List FlightV) : Prop := l.length * 24 ≤ 140737488351232 ∧ ∀ x ∈ l, bndFlightV x
theorem totFlightS_nn (l : List FlightV) : 0 ≤ totFlightS l := by have := sum_nn totFlightV_nn l; unfold totFlightS; omega

set_option maxHeartbeats 4000000 in
theorem laws_szFlightS (k : Nat) (l : List FlightV) (left : Int) (hpre : bndFlightS l ∧ 0 ≤ left ∧ left ≤ 1048576) : CallsT Tryz.prog [] F.laws_szFlightS [.sl false k l.length 2 (rowT flightC l), .v (.int .i64 left)] (.v (.int .i64 (cutI (left - totFlightS l)))) [] := by
  refine fnT C.laws_szFlightS ?_
  obtain ⟨⟨hb1, hb2⟩, h0, h1⟩ := hpre
  have hn := sum_nn totFlightV_nn l
  refine run ?_
  refine r_ifd (fun h => ?_) (fun h => ?_)
  · rw [show cutI (left - totFlightS l) = -1 from if_pos (by unfold totFlightS; omega)]
    refine run ?_
    exact r_end [] []
  refine run ?_
  refine r_for l.length (fun i => [(0, .sl false k l.length 2 (rowT flightC l)), (1, .v (.int .i64 (left - l.length - sumI totFlightV (l.take i)))), (5, .v (.int .i64 i))]) (fun _ => []) (fun i => 0 ≤ left - l.length - sumI totFlightV (l.take i)) [] [] (by simp [sumI]; omega) Gc.of (fun i hi hv => ?_) (fun hv => ?_)
  · have hs := sum_take totFlightV hi
    have hs0 := sum_nn totFlightV_nn (l.take i)
    have hs1 : bndFlight (nth l i).bytes := hb2 _ (nth_mem hi)
    have hs2 := sum_le totFlightV_nn l (i + 1)
    have hs3 : totFlight (nth l i).bytes = totFlightV (nth l i) := rfl
    refine run ?_
    have e : left - l.length - sumI totFlightV (l.take i) - totFlightV (nth l i) = left - l.length - sumI totFlightV (l.take (i + 1)) := by omega
    rw [hs3, e]
    refine r_ifd (fun h => ?_) (fun h => ?_)
    · have h := cutI_neg h
      rw [show cutI (left - totFlightS l) = -1 from if_pos (by unfold totFlightS; omega)]
      refine run ?_
      exact r_end [] []
    · obtain ⟨e1, h2⟩ := cutI_nn h
      rw [e1]
      refine run ?_
      exact ⟨[], [], Gc.of, h2⟩
  · rw [show cutI (left - totFlightS l) = left - l.length - sumI totFlightV (l.take l.length) by rw [List.take_length] at *; unfold cutI totFlightS; rw [if_neg (by omega)] <;> omega]
    refine run ?_
    exact r_end [] []
instance (k : Nat) (l : List FlightV) (left : Int) : Con Tryz.prog F.laws_szFlightS [.sl false k l.length 2 (rowT flightC l), .v (.int .i64 left)] (bndFlightS l ∧ 0 ≤ left ∧ left ≤ 1048576) (.v (.int .i64 (cutI (left - totFlightS l)))) [] := ⟨fun h => laws_szFlightS k l left h⟩

@[go_sem] theorem mkR_flight (n : Nat) : mkR [.v (.int .i64 0), .v (.string ⟨#[]⟩)] n = ((List.replicate n (default : FlightV)).length, rowT flightC (List.replicate n default)) := mkR_enc flightC default n

set_option maxHeartbeats 4000000 in
theorem laws_toFlightS (k : Nat) (l : List FlightV) (hpre : bndFlightS l) : CallsT Tryz.prog [] F.laws_toFlightS [.sl false k l.length 2 (rowT flightC l)] (.sl false 0 l.length 2 (rowT flightC l)) [] := by
  refine fnT C.laws_toFlightS ?_
  obtain ⟨hb1, hb2⟩ := hpre
  refine run ?_
  rw [Int.toNat_natCast, List.length_replicate]
  refine r_for l.length (fun i => [(0, .sl false k l.length 2 (rowT flightC l)), (3, .ref 0 [] 0 l.length), (4, .v (.int .i64 i))]) (fun i => [⟨2, true, rowT flightC (l.take i ++ (List.replicate l.length default).drop i)⟩]) (fun _ => True) [0] [] trivial Gc.of (fun i hi _ => ?_) (fun _ => ?_)
  · have hs1 : bndFlight (nth l i).bytes := hb2 _ (nth_mem hi)
    refine run ?_
    refine r_sto (enc := flightC) _ i (nth l i) ?_
    rw [set_mix hi (by simp)]
    refine run ?_
    exact ⟨[0], [], Gc.of, trivial⟩
  · rw [List.take_length, List.drop_of_length_le (by simp), List.append_nil]
    refine run ?_
    exact r_end [] [0]
instance (k : Nat) (l : List FlightV) : Con Tryz.prog F.laws_toFlightS [.sl false k l.length 2 (rowT flightC l)] (bndFlightS l) (.sl false 0 l.length 2 (rowT flightC l)) [] := ⟨fun h => laws_toFlightS k l h⟩

set_option maxHeartbeats 4000000 in
theorem laws_eqFlightS (k k2 : Nat) (l : List FlightV) (hpre : bndFlightS l) : CallsT Tryz.prog [] F.laws_eqFlightS [.sl false k l.length 2 (rowT flightC l), .sl false k2 l.length 2 (rowT flightC l)] (.v (.bool true)) [] := by
  refine fnT C.laws_eqFlightS ?_
  obtain ⟨hb1, hb2⟩ := hpre
  refine run ?_
  refine r_for l.length (fun i => [(0, .sl false k l.length 2 (rowT flightC l)), (1, .sl false k2 l.length 2 (rowT flightC l)), (5, .v (.int .i64 i))]) (fun _ => []) (fun _ => True) [] [] trivial Gc.of (fun i hi _ => ?_) (fun _ => ?_)
  · have hs1 : bndFlight (nth l i).bytes := hb2 _ (nth_mem hi)
    refine run ?_
    exact ⟨[], [], Gc.of, trivial⟩
  · refine run ?_
    exact r_end [] []
instance (k k2 : Nat) (l : List FlightV) : Con Tryz.prog F.laws_eqFlightS [.sl false k l.length 2 (rowT flightC l), .sl false k2 l.length 2 (rowT flightC l)] (bndFlightS l) (.v (.bool true)) [] := ⟨fun h => laws_eqFlightS k k2 l h⟩

structure FleetV where
  of : Int
  members : List MemberV
  mail : List FlightV
instance : Inhabited FleetV := ⟨⟨0, [], []⟩⟩
def fleetC (x : FleetV) : List T := [.v (.int .i64 x.of), .sl false 0 x.members.length 19 (rowT memberC x.members), .sl false 0 x.mail.length 2 (rowT flightC x.mail)]
instance : RowE fleetC 3 := ⟨⟨fun _ => rfl, fun _ => rfl⟩⟩
instance : RowF fleetC := ⟨fun _ => rfl⟩
attribute [go_sem] fleetC
def totFleet (members : List MemberV) (mail : List FlightV) : Int := totMemberS members + totFlightS mail
def bndFleet (members : List MemberV) (mail : List FlightV) : Prop := bndMemberS members ∧ bndFlightS mail
theorem totFleet_nn (members : List MemberV) (mail : List FlightV) : 0 ≤ totFleet members mail := by
  have h0 := totMemberS_nn members
  have h1 := totFlightS_nn mail
  unfold totFleet; omega
def totFleetV (x : FleetV) : Int := totFleet x.members x.mail
def bndFleetV (x : FleetV) : Prop := bndFleet x.members x.mail
theorem totFleetV_nn (x : FleetV) : 0 ≤ totFleetV x := totFleet_nn x.members x.mail

set_option maxHeartbeats 4000000 in
theorem laws_szFleet (k0 : Nat) (k1 : Nat) (of : Int) (members : List MemberV) (mail : List FlightV) (left : Int) (hpre : bndFleet members mail ∧ 0 ≤ left ∧ left ≤ 1048576) : CallsT Tryz.prog [] F.laws_szFleet [.agg [.v (.int .i64 of), .sl false k0 members.length 19 (rowT memberC members), .sl false k1 mail.length 2 (rowT flightC mail)], .v (.int .i64 left)] (.v (.int .i64 (cutI (left - totFleet members mail)))) [] := by
  refine fnT C.laws_szFleet ?_
  obtain ⟨hb, hl0, hl1⟩ := hpre
  obtain ⟨hb0, hb1⟩ := hb
  have hn0 : 0 ≤ totMemberS members := totMemberS_nn members
  have hn1 : 0 ≤ totFlightS mail := totFlightS_nn mail
  refine run ?_
  refine r_ifd (fun h => ?_) (fun h => ?_)
  · have h := cutI_neg h; rw [show cutI (left - totFleet members mail) = -1 from if_pos (by unfold totFleet; omega)]
    refine run ?_
    exact r_end [] []
  obtain ⟨e0, h⟩ := cutI_nn h
  rw [e0]
  refine run ?_
  refine r_ifd (fun h => ?_) (fun h => ?_)
  · have h := cutI_neg h; rw [show cutI (left - totFleet members mail) = -1 from if_pos (by unfold totFleet; omega)]
    refine run ?_
    exact r_end [] []
  obtain ⟨e1, h⟩ := cutI_nn h
  rw [e1]
  rw [show cutI (left - totFleet members mail) = left - totMemberS members - totFlightS mail by unfold cutI totFleet; rw [if_neg (by omega)] <;> omega]
  refine run ?_
  exact r_end [] []
instance (k0 : Nat) (k1 : Nat) (of : Int) (members : List MemberV) (mail : List FlightV) (left : Int) : Con Tryz.prog F.laws_szFleet [.agg [.v (.int .i64 of), .sl false k0 members.length 19 (rowT memberC members), .sl false k1 mail.length 2 (rowT flightC mail)], .v (.int .i64 left)] (bndFleet members mail ∧ 0 ≤ left ∧ left ≤ 1048576) (.v (.int .i64 (cutI (left - totFleet members mail)))) [] := ⟨fun h => laws_szFleet k0 k1 of members mail left h⟩

set_option maxHeartbeats 4000000 in
theorem laws_toFleet (k0 : Nat) (k1 : Nat) (of : Int) (members : List MemberV) (mail : List FlightV) (hpre : bndFleet members mail) : CallsT Tryz.prog [] F.laws_toFleet [.agg [.v (.int .i64 of), .sl false k0 members.length 19 (rowT memberC members), .sl false k1 mail.length 2 (rowT flightC mail)]] (.agg [.v (.int .i64 of), .sl false 0 members.length 19 (rowT memberC members), .sl false 0 mail.length 2 (rowT flightC mail)]) [] := by
  refine fnT C.laws_toFleet ?_
  obtain ⟨hb0, hb1⟩ := hpre
  refine run ?_
  exact r_end [] []
instance (k0 : Nat) (k1 : Nat) (of : Int) (members : List MemberV) (mail : List FlightV) : Con Tryz.prog F.laws_toFleet [.agg [.v (.int .i64 of), .sl false k0 members.length 19 (rowT memberC members), .sl false k1 mail.length 2 (rowT flightC mail)]] (bndFleet members mail) (.agg [.v (.int .i64 of), .sl false 0 members.length 19 (rowT memberC members), .sl false 0 mail.length 2 (rowT flightC mail)]) [] := ⟨fun h => laws_toFleet k0 k1 of members mail h⟩

set_option maxHeartbeats 4000000 in
theorem laws_eqFleet (k0 : Nat) (k1 : Nat) (q0 : Nat) (q1 : Nat) (of : Int) (members : List MemberV) (mail : List FlightV) (hpre : bndFleet members mail) : CallsT Tryz.prog [] F.laws_eqFleet [.agg [.v (.int .i64 of), .sl false k0 members.length 19 (rowT memberC members), .sl false k1 mail.length 2 (rowT flightC mail)], .agg [.v (.int .i64 of), .sl false q0 members.length 19 (rowT memberC members), .sl false q1 mail.length 2 (rowT flightC mail)]] (.v (.bool true)) [] := by
  refine fnT C.laws_eqFleet ?_
  obtain ⟨hb0, hb1⟩ := hpre
  refine run ?_
  exact r_end [] []
instance (k0 : Nat) (k1 : Nat) (q0 : Nat) (q1 : Nat) (of : Int) (members : List MemberV) (mail : List FlightV) : Con Tryz.prog F.laws_eqFleet [.agg [.v (.int .i64 of), .sl false k0 members.length 19 (rowT memberC members), .sl false k1 mail.length 2 (rowT flightC mail)], .agg [.v (.int .i64 of), .sl false q0 members.length 19 (rowT memberC members), .sl false q1 mail.length 2 (rowT flightC mail)]] (bndFleet members mail) (.v (.bool true)) [] := ⟨fun h => laws_eqFleet k0 k1 q0 q1 of members mail h⟩

end Go.TL
