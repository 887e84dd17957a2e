/- Members: what is right. No conditions but those that are written. -/
import Derived.Test.YtjpgfcmkdlnocaaGreatDoorF3
import Derived.Test.YtjpgfcmkdlnocaaGreatDoorE3
import Derived.Test.YtjpgfcmkdlnocaaGreatDoorA7
import Derived.Test.YtjpgfcmkdlnocaaGreatDoorTDr2
namespace Go.TL
set_option linter.unusedSimpArgs false
open Go.Proofs Go.RowKit
attribute [local irreducible] wpOpsT wpT EndT Ex.seq Ex.block W

/-- A member of which all but the disk is zero. -/
def bareP (_up : Prop) (_disk_room : Int) (_disk_files : List FileV) (raft_id raft_of raft_role raft_commit raft_hard_term raft_hard_vote : Int) (raft_hard_log : List EntryV) (raft_yes raft_next raft_mtch : List Int) (applied roll_of : Int) (roll_rels : List RelV) (roll_act : Int) (roll_order : List Int) (helds : List HeldV) : Prop :=
  (raft_id = 0 ∧ raft_of = 0 ∧ raft_role = 0 ∧ raft_commit = 0 ∧ raft_hard_term = 0 ∧ raft_hard_vote = 0) ∧ ((raft_hard_log.length : Int) = 0 ∧ (raft_yes.length : Int) = 0 ∧ (raft_next.length : Int) = 0 ∧ (raft_mtch.length : Int) = 0) ∧ applied = 0 ∧ (roll_of = 0 ∧ (roll_rels.length : Int) = 0 ∧ roll_act = 0 ∧ (roll_order.length : Int) = 0) ∧ (helds.length : Int) = 0
instance (up : Prop) [Decidable up] (disk_room : Int) (disk_files : List FileV) (raft_id : Int) (raft_of : Int) (raft_role : Int) (raft_commit : Int) (raft_hard_term : Int) (raft_hard_vote : Int) (raft_hard_log : List EntryV) (raft_yes : List Int) (raft_next : List Int) (raft_mtch : List Int) (applied : Int) (roll_of : Int) (roll_rels : List RelV) (roll_act : Int) (roll_order : List Int) (helds : List HeldV) : Decidable (bareP up disk_room disk_files raft_id raft_of raft_role raft_commit raft_hard_term raft_hard_vote raft_hard_log raft_yes raft_next raft_mtch applied roll_of roll_rels roll_act roll_order helds) := by unfold bareP; infer_instance
/-- What a member must be at its place. -/
def memberP (up : Prop) (disk_room : Int) (disk_files : List FileV) (raft_id raft_of raft_role raft_commit raft_hard_term raft_hard_vote : Int) (raft_hard_log : List EntryV) (raft_yes raft_next raft_mtch : List Int) (applied roll_of : Int) (roll_rels : List RelV) (roll_act : Int) (roll_order : List Int) (helds : List HeldV) (i of : Int) : Prop :=
  diskP disk_room disk_files ∧ ((¬ up ∧ bareP up disk_room disk_files raft_id raft_of raft_role raft_commit raft_hard_term raft_hard_vote raft_hard_log raft_yes raft_next raft_mtch applied roll_of roll_rels roll_act roll_order helds) ∨ (up ∧ raftP raft_id raft_of raft_role raft_commit raft_hard_term raft_hard_vote raft_hard_log raft_yes raft_next raft_mtch ∧ raft_id = i ∧ raft_of = of ∧ (0 ≤ applied ∧ applied ≤ raft_commit) ∧ rollP roll_of roll_rels roll_act roll_order ∧ roll_of = of ∧ heldsP helds))
instance (up : Prop) [Decidable up] (disk_room : Int) (disk_files : List FileV) (raft_id : Int) (raft_of : Int) (raft_role : Int) (raft_commit : Int) (raft_hard_term : Int) (raft_hard_vote : Int) (raft_hard_log : List EntryV) (raft_yes : List Int) (raft_next : List Int) (raft_mtch : List Int) (applied : Int) (roll_of : Int) (roll_rels : List RelV) (roll_act : Int) (roll_order : List Int) (helds : List HeldV) (i of : Int) : Decidable (memberP up disk_room disk_files raft_id raft_of raft_role raft_commit raft_hard_term raft_hard_vote raft_hard_log raft_yes raft_next raft_mtch applied roll_of roll_rels roll_act roll_order helds i of) := by unfold memberP; infer_instance
def sizesM (disk_files : List FileV) (roll_rels : List RelV) (roll_order : List Int) : Prop := totFileS disk_files ≤ 1048576 ∧ totRoll roll_rels roll_order ≤ 1048576
theorem sizesM_of {disk_files : List FileV} {raft_hard_log : List EntryV} {raft_yes raft_next raft_mtch : List Int} {roll_rels : List RelV} {roll_order : List Int} {helds : List HeldV} (h : totMember disk_files raft_hard_log raft_yes raft_next raft_mtch roll_rels roll_order helds ≤ 1048576) : sizesM disk_files roll_rels roll_order := by
  have h1 : 0 ≤ totFileS disk_files := totFileS_nn _
  have h2 := totRaft_nn raft_hard_log raft_yes raft_next raft_mtch
  have h3 := totRoll_nn roll_rels roll_order
  have h4 := totHS_nn helds
  unfold totMember totDisk at h
  exact ⟨by omega, by omega⟩

set_option maxHeartbeats 4000000 in
theorem impl_isBare (k0 k1 k2 k3 k4 k5 k6 k7 : Nat) (up : Prop) [Decidable up] (disk_room : Int) (disk_files : List FileV) (raft_id : Int) (raft_of : Int) (raft_role : Int) (raft_commit : Int) (raft_hard_term : Int) (raft_hard_vote : Int) (raft_hard_log : List EntryV) (raft_yes : List Int) (raft_next : List Int) (raft_mtch : List Int) (applied : Int) (roll_of : Int) (roll_rels : List RelV) (roll_act : Int) (roll_order : List Int) (helds : List HeldV) (hpre : bndMember disk_files raft_hard_log raft_yes raft_next raft_mtch roll_rels roll_order helds) : CallsT Tryz.prog [] F.impl_isBare [.agg [.v (.bool (decide up)), .v (.int .i64 disk_room), .sl false k0 disk_files.length 3 (rowT fileC disk_files), .v (.int .i64 raft_id), .v (.int .i64 raft_of), .v (.int .i64 raft_role), .v (.int .i64 raft_commit), .v (.int .i64 raft_hard_term), .v (.int .i64 raft_hard_vote), .sl false k1 raft_hard_log.length 6 (rowT entryC raft_hard_log), .sl false k2 raft_yes.length 1 (rowT i64C raft_yes), .sl false k3 raft_next.length 1 (rowT i64C raft_next), .sl false k4 raft_mtch.length 1 (rowT i64C raft_mtch), .v (.int .i64 applied), .v (.int .i64 roll_of), .sl false k5 roll_rels.length 5 (rowT relC roll_rels), .v (.int .i64 roll_act), .sl false k6 roll_order.length 1 (rowT i64C roll_order), .sl false k7 helds.length 4 (rowT heldC helds)]] (.v (.bool (decide (bareP up disk_room disk_files raft_id raft_of raft_role raft_commit raft_hard_term raft_hard_vote raft_hard_log raft_yes raft_next raft_mtch applied roll_of roll_rels roll_act roll_order helds)))) [] := by
  refine fnT C.impl_isBare ?_
  obtain ⟨hd, ⟨hl, hy, hn, hm⟩, ⟨hr, ho⟩, hh⟩ := hpre
  have hl' : raft_hard_log.length * 56 ≤ 140737488351232 := hl.1
  have hy' : raft_yes.length * 8 ≤ 140737488351232 := hy
  have hn' : raft_next.length * 8 ≤ 140737488351232 := hn
  have hm' : raft_mtch.length * 8 ≤ 140737488351232 := hm
  have hr' : roll_rels.length * 64 ≤ 140737488351232 := hr.1
  have ho' : roll_order.length * 8 ≤ 140737488351232 := ho
  have hh' : helds.length ≤ 2513169434916 := hh.1
  refine runS ?_
  refine r_draw2 5 [(1, .ptr 0 [] 0), (2, .v (.bool false)), (3, .ptr 1 [] 0), (4, .ptr 2 [] 0)] [⟨0, true, [.v (.bool (decide up)), .v (.int .i64 disk_room), .sl false k0 disk_files.length 3 (rowT fileC disk_files), .v (.int .i64 raft_id), .v (.int .i64 raft_of), .v (.int .i64 raft_role), .v (.int .i64 raft_commit), .v (.int .i64 raft_hard_term), .v (.int .i64 raft_hard_vote), .sl false k1 raft_hard_log.length 6 (rowT entryC raft_hard_log), .sl false k2 raft_yes.length 1 (rowT i64C raft_yes), .sl false k3 raft_next.length 1 (rowT i64C raft_next), .sl false k4 raft_mtch.length 1 (rowT i64C raft_mtch), .v (.int .i64 applied), .v (.int .i64 roll_of), .sl false k5 roll_rels.length 5 (rowT relC roll_rels), .v (.int .i64 roll_act), .sl false k6 roll_order.length 1 (rowT i64C roll_order), .sl false k7 helds.length 4 (rowT heldC helds)]⟩, ⟨0, true, [.v (.int .i64 raft_id), .v (.int .i64 raft_of), .v (.int .i64 raft_role), .v (.int .i64 raft_commit), .v (.int .i64 raft_hard_term), .v (.int .i64 raft_hard_vote), .sl false k1 raft_hard_log.length 6 (rowT entryC raft_hard_log), .sl false k2 raft_yes.length 1 (rowT i64C raft_yes), .sl false k3 raft_next.length 1 (rowT i64C raft_next), .sl false k4 raft_mtch.length 1 (rowT i64C raft_mtch)]⟩, ⟨0, true, [.v (.int .i64 raft_hard_term), .v (.int .i64 raft_hard_vote), .sl false k1 raft_hard_log.length 6 (rowT entryC raft_hard_log)]⟩] ?_ ?_ ?_
  rotate_left
  · refine run ?_
    exact ⟨[0, 1, 2], [], Gc.of⟩
  · refine run ?_
    exact ⟨[0, 2, 1], [], Gc.of⟩
  refine run ?_
  refine r_endb ?_
  unfold bareP
  constructor
  · intro h; omega
  · intro h; omega
instance (k0 k1 k2 k3 k4 k5 k6 k7 : Nat) (up : Prop) [Decidable up] (disk_room : Int) (disk_files : List FileV) (raft_id : Int) (raft_of : Int) (raft_role : Int) (raft_commit : Int) (raft_hard_term : Int) (raft_hard_vote : Int) (raft_hard_log : List EntryV) (raft_yes : List Int) (raft_next : List Int) (raft_mtch : List Int) (applied : Int) (roll_of : Int) (roll_rels : List RelV) (roll_act : Int) (roll_order : List Int) (helds : List HeldV) : Con Tryz.prog F.impl_isBare [.agg [.v (.bool (decide up)), .v (.int .i64 disk_room), .sl false k0 disk_files.length 3 (rowT fileC disk_files), .v (.int .i64 raft_id), .v (.int .i64 raft_of), .v (.int .i64 raft_role), .v (.int .i64 raft_commit), .v (.int .i64 raft_hard_term), .v (.int .i64 raft_hard_vote), .sl false k1 raft_hard_log.length 6 (rowT entryC raft_hard_log), .sl false k2 raft_yes.length 1 (rowT i64C raft_yes), .sl false k3 raft_next.length 1 (rowT i64C raft_next), .sl false k4 raft_mtch.length 1 (rowT i64C raft_mtch), .v (.int .i64 applied), .v (.int .i64 roll_of), .sl false k5 roll_rels.length 5 (rowT relC roll_rels), .v (.int .i64 roll_act), .sl false k6 roll_order.length 1 (rowT i64C roll_order), .sl false k7 helds.length 4 (rowT heldC helds)]] (bndMember disk_files raft_hard_log raft_yes raft_next raft_mtch roll_rels roll_order helds) (.v (.bool (decide (bareP up disk_room disk_files raft_id raft_of raft_role raft_commit raft_hard_term raft_hard_vote raft_hard_log raft_yes raft_next raft_mtch applied roll_of roll_rels roll_act roll_order helds)))) [] := ⟨fun h => impl_isBare k0 k1 k2 k3 k4 k5 k6 k7 up disk_room disk_files raft_id raft_of raft_role raft_commit raft_hard_term raft_hard_vote raft_hard_log raft_yes raft_next raft_mtch applied roll_of roll_rels roll_act roll_order helds h⟩

set_option maxHeartbeats 4000000 in
theorem impl_memberOk (k0 k1 k2 k3 k4 k5 k6 k7 : Nat) (up : Prop) [Decidable up] (disk_room : Int) (disk_files : List FileV) (raft_id : Int) (raft_of : Int) (raft_role : Int) (raft_commit : Int) (raft_hard_term : Int) (raft_hard_vote : Int) (raft_hard_log : List EntryV) (raft_yes : List Int) (raft_next : List Int) (raft_mtch : List Int) (applied : Int) (roll_of : Int) (roll_rels : List RelV) (roll_act : Int) (roll_order : List Int) (helds : List HeldV) (i of : Int) (hpre : bndMember disk_files raft_hard_log raft_yes raft_next raft_mtch roll_rels roll_order helds ∧ sizesM disk_files roll_rels roll_order) : CallsT Tryz.prog [] F.impl_memberOk [.agg [.v (.bool (decide up)), .v (.int .i64 disk_room), .sl false k0 disk_files.length 3 (rowT fileC disk_files), .v (.int .i64 raft_id), .v (.int .i64 raft_of), .v (.int .i64 raft_role), .v (.int .i64 raft_commit), .v (.int .i64 raft_hard_term), .v (.int .i64 raft_hard_vote), .sl false k1 raft_hard_log.length 6 (rowT entryC raft_hard_log), .sl false k2 raft_yes.length 1 (rowT i64C raft_yes), .sl false k3 raft_next.length 1 (rowT i64C raft_next), .sl false k4 raft_mtch.length 1 (rowT i64C raft_mtch), .v (.int .i64 applied), .v (.int .i64 roll_of), .sl false k5 roll_rels.length 5 (rowT relC roll_rels), .v (.int .i64 roll_act), .sl false k6 roll_order.length 1 (rowT i64C roll_order), .sl false k7 helds.length 4 (rowT heldC helds)], .v (.int .i64 i), .v (.int .i64 of)] (.v (.bool (decide (memberP up disk_room disk_files raft_id raft_of raft_role raft_commit raft_hard_term raft_hard_vote raft_hard_log raft_yes raft_next raft_mtch applied roll_of roll_rels roll_act roll_order helds i of)))) [] := by
  refine fnT C.impl_memberOk ?_
  obtain ⟨hb, hs⟩ := hpre
  have hd : bndFileS disk_files := hb.1
  have hraft : bndRaft raft_hard_log raft_yes raft_next raft_mtch := hb.2.1
  have hroll : bndRoll roll_rels roll_order := hb.2.2.1
  have hh : bndHS helds := hb.2.2.2
  obtain ⟨hs1, hs2⟩ := hs
  refine run ?_
  refine r_ifd (fun h => ?_) (fun h => ?_)
  · refine run ?_
    refine r_endF ?_
    unfold memberP
    exact fun hp => h hp.1
  have h := Decidable.not_not.1 h
  refine run ?_
  refine r_ifd (fun h2 => ?_) (fun h2 => ?_)
  · refine run ?_
    refine r_endb ?_
    unfold memberP
    grind
  · refine run ?_
    refine r_endb ?_
    unfold memberP
    grind
instance (k0 k1 k2 k3 k4 k5 k6 k7 : Nat) (up : Prop) [Decidable up] (disk_room : Int) (disk_files : List FileV) (raft_id : Int) (raft_of : Int) (raft_role : Int) (raft_commit : Int) (raft_hard_term : Int) (raft_hard_vote : Int) (raft_hard_log : List EntryV) (raft_yes : List Int) (raft_next : List Int) (raft_mtch : List Int) (applied : Int) (roll_of : Int) (roll_rels : List RelV) (roll_act : Int) (roll_order : List Int) (helds : List HeldV) (i of : Int) : Con Tryz.prog F.impl_memberOk [.agg [.v (.bool (decide up)), .v (.int .i64 disk_room), .sl false k0 disk_files.length 3 (rowT fileC disk_files), .v (.int .i64 raft_id), .v (.int .i64 raft_of), .v (.int .i64 raft_role), .v (.int .i64 raft_commit), .v (.int .i64 raft_hard_term), .v (.int .i64 raft_hard_vote), .sl false k1 raft_hard_log.length 6 (rowT entryC raft_hard_log), .sl false k2 raft_yes.length 1 (rowT i64C raft_yes), .sl false k3 raft_next.length 1 (rowT i64C raft_next), .sl false k4 raft_mtch.length 1 (rowT i64C raft_mtch), .v (.int .i64 applied), .v (.int .i64 roll_of), .sl false k5 roll_rels.length 5 (rowT relC roll_rels), .v (.int .i64 roll_act), .sl false k6 roll_order.length 1 (rowT i64C roll_order), .sl false k7 helds.length 4 (rowT heldC helds)], .v (.int .i64 i), .v (.int .i64 of)] (bndMember disk_files raft_hard_log raft_yes raft_next raft_mtch roll_rels roll_order helds ∧ sizesM disk_files roll_rels roll_order) (.v (.bool (decide (memberP up disk_room disk_files raft_id raft_of raft_role raft_commit raft_hard_term raft_hard_vote raft_hard_log raft_yes raft_next raft_mtch applied roll_of roll_rels roll_act roll_order helds i of)))) [] := ⟨fun h => impl_memberOk k0 k1 k2 k3 k4 k5 k6 k7 up disk_room disk_files raft_id raft_of raft_role raft_commit raft_hard_term raft_hard_vote raft_hard_log raft_yes raft_next raft_mtch applied roll_of roll_rels roll_act roll_order helds i of h⟩

set_option maxHeartbeats 4000000 in
theorem spec_l15Member (k0 k1 k2 k3 k4 k5 k6 k7 : Nat) (up : Prop) [Decidable up] (disk_room : Int) (disk_files : List FileV) (raft_id : Int) (raft_of : Int) (raft_role : Int) (raft_commit : Int) (raft_hard_term : Int) (raft_hard_vote : Int) (raft_hard_log : List EntryV) (raft_yes : List Int) (raft_next : List Int) (raft_mtch : List Int) (applied : Int) (roll_of : Int) (roll_rels : List RelV) (roll_act : Int) (roll_order : List Int) (helds : List HeldV) (i of : Int) (hpre : bndMember disk_files raft_hard_log raft_yes raft_next raft_mtch roll_rels roll_order helds ∧ sizesM disk_files roll_rels roll_order) : CallsT Tryz.prog [] F.spec_l15Member [.agg [.v (.bool (decide up)), .v (.int .i64 disk_room), .sl false k0 disk_files.length 3 (rowT fileC disk_files), .v (.int .i64 raft_id), .v (.int .i64 raft_of), .v (.int .i64 raft_role), .v (.int .i64 raft_commit), .v (.int .i64 raft_hard_term), .v (.int .i64 raft_hard_vote), .sl false k1 raft_hard_log.length 6 (rowT entryC raft_hard_log), .sl false k2 raft_yes.length 1 (rowT i64C raft_yes), .sl false k3 raft_next.length 1 (rowT i64C raft_next), .sl false k4 raft_mtch.length 1 (rowT i64C raft_mtch), .v (.int .i64 applied), .v (.int .i64 roll_of), .sl false k5 roll_rels.length 5 (rowT relC roll_rels), .v (.int .i64 roll_act), .sl false k6 roll_order.length 1 (rowT i64C roll_order), .sl false k7 helds.length 4 (rowT heldC helds)], .v (.int .i64 i), .v (.int .i64 of)] (.v (.bool (decide (memberP up disk_room disk_files raft_id raft_of raft_role raft_commit raft_hard_term raft_hard_vote raft_hard_log raft_yes raft_next raft_mtch applied roll_of roll_rels roll_act roll_order helds i of)))) [] := by
  refine fnT C.spec_l15Member ?_
  obtain ⟨hb, hs⟩ := hpre
  have hd : bndFileS disk_files := hb.1
  have hraft : bndRaft raft_hard_log raft_yes raft_next raft_mtch := hb.2.1
  have hroll : bndRoll roll_rels roll_order := hb.2.2.1
  have hh : bndHS helds := hb.2.2.2
  obtain ⟨hs1, hs2⟩ := hs
  refine run ?_
  refine r_ifd (fun h => ?_) (fun h => ?_)
  · refine run ?_
    refine r_endF ?_
    unfold memberP
    exact fun hp => h hp.1
  have h := Decidable.not_not.1 h
  refine run ?_
  refine r_ifd (fun h2 => ?_) (fun h2 => ?_)
  · refine run ?_
    refine r_endb ?_
    unfold memberP bareP
    grind
  · refine run ?_
    refine r_endb ?_
    unfold memberP
    grind
instance (k0 k1 k2 k3 k4 k5 k6 k7 : Nat) (up : Prop) [Decidable up] (disk_room : Int) (disk_files : List FileV) (raft_id : Int) (raft_of : Int) (raft_role : Int) (raft_commit : Int) (raft_hard_term : Int) (raft_hard_vote : Int) (raft_hard_log : List EntryV) (raft_yes : List Int) (raft_next : List Int) (raft_mtch : List Int) (applied : Int) (roll_of : Int) (roll_rels : List RelV) (roll_act : Int) (roll_order : List Int) (helds : List HeldV) (i of : Int) : Con Tryz.prog F.spec_l15Member [.agg [.v (.bool (decide up)), .v (.int .i64 disk_room), .sl false k0 disk_files.length 3 (rowT fileC disk_files), .v (.int .i64 raft_id), .v (.int .i64 raft_of), .v (.int .i64 raft_role), .v (.int .i64 raft_commit), .v (.int .i64 raft_hard_term), .v (.int .i64 raft_hard_vote), .sl false k1 raft_hard_log.length 6 (rowT entryC raft_hard_log), .sl false k2 raft_yes.length 1 (rowT i64C raft_yes), .sl false k3 raft_next.length 1 (rowT i64C raft_next), .sl false k4 raft_mtch.length 1 (rowT i64C raft_mtch), .v (.int .i64 applied), .v (.int .i64 roll_of), .sl false k5 roll_rels.length 5 (rowT relC roll_rels), .v (.int .i64 roll_act), .sl false k6 roll_order.length 1 (rowT i64C roll_order), .sl false k7 helds.length 4 (rowT heldC helds)], .v (.int .i64 i), .v (.int .i64 of)] (bndMember disk_files raft_hard_log raft_yes raft_next raft_mtch roll_rels roll_order helds ∧ sizesM disk_files roll_rels roll_order) (.v (.bool (decide (memberP up disk_room disk_files raft_id raft_of raft_role raft_commit raft_hard_term raft_hard_vote raft_hard_log raft_yes raft_next raft_mtch applied roll_of roll_rels roll_act roll_order helds i of)))) [] := ⟨fun h => spec_l15Member k0 k1 k2 k3 k4 k5 k6 k7 up disk_room disk_files raft_id raft_of raft_role raft_commit raft_hard_term raft_hard_vote raft_hard_log raft_yes raft_next raft_mtch applied roll_of roll_rels roll_act roll_order helds i of h⟩

end Go.TL
