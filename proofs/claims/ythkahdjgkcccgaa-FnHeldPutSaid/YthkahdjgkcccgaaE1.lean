/- Files, disks, commands, entries, hards: printed by a program of this work. No conditions but those that are written. -/
import Derived.Test.YthkahdjgkcccgaaA5
namespace Go.TL
set_option linter.unusedSimpArgs false
open Go.Proofs Go.RowKit
attribute [local irreducible] wpOpsT wpT EndT Ex.seq Ex.block W

def totIS (l : List Int) : Int := l.length
def bndIS (l : List Int) : Prop := l.length * 8 ≤ 140737488351232
theorem totIS_nn (l : List Int) : 0 ≤ totIS l := by unfold totIS; omega

set_option maxHeartbeats 4000000 in
theorem laws_szIntS (k : Nat) (l : List Int) (left : Int) (hpre : bndIS l ∧ 0 ≤ left ∧ left ≤ 1048576) : CallsT Try.prog [] F.laws_szIntS [.sl false k l.length 1 (rowT i64C l), .v (.int .i64 left)] (.v (.int .i64 (cutI (left - totIS l)))) [] := by
  refine fnT C.laws_szIntS ?_
  obtain ⟨hb1, h0, h1⟩ := hpre
  unfold bndIS at hb1
  refine run ?_
  refine r_ifd (fun h => ?_) (fun h => ?_)
  · rw [show cutI (left - totIS l) = -1 from if_pos (by unfold totIS; omega)]
    refine run ?_
    exact r_end [] []
  rw [show cutI (left - totIS l) = left - l.length by unfold cutI totIS; rw [if_neg (by omega)]]
  refine run ?_
  exact r_end [] []
instance (k : Nat) (l : List Int) (left : Int) : Con Try.prog F.laws_szIntS [.sl false k l.length 1 (rowT i64C l), .v (.int .i64 left)] (bndIS l ∧ 0 ≤ left ∧ left ≤ 1048576) (.v (.int .i64 (cutI (left - totIS l)))) [] := ⟨fun h => laws_szIntS k l left h⟩

set_option maxHeartbeats 4000000 in
theorem laws_toIntS (k : Nat) (l : List Int) (hpre : bndIS l) : CallsT Try.prog [] F.laws_toIntS [.sl false k l.length 1 (rowT i64C l)] (.sl false 0 l.length 1 (rowT i64C l)) [] := by
  refine fnT C.laws_toIntS ?_
  have hb1 : l.length * 8 ≤ 140737488351232 := hpre
  refine run ?_
  rw [Int.toNat_natCast, List.length_replicate]
  refine r_for l.length (fun i => [(0, .sl false k l.length 1 (rowT i64C l)), (3, .ref 0 [] 0 l.length), (4, .v (.int .i64 i))]) (fun i => [⟨1, true, rowT i64C (l.take i ++ (List.replicate l.length 0).drop i)⟩]) (fun _ => True) [0] [] trivial Gc.of (fun i hi _ => ?_) (fun _ => ?_)
  · refine run ?_
    refine r_sto (enc := i64C) _ i (nth l i) ?_
    rw [set_mix hi (by simp)]
    refine run ?_
    exact ⟨[0], [], Gc.of, trivial⟩
  · rw [List.take_length, List.drop_of_length_le (by simp), List.append_nil]
    refine run ?_
    exact r_end [] [0]
instance (k : Nat) (l : List Int) : Con Try.prog F.laws_toIntS [.sl false k l.length 1 (rowT i64C l)] (bndIS l) (.sl false 0 l.length 1 (rowT i64C l)) [] := ⟨fun h => laws_toIntS k l h⟩

set_option maxHeartbeats 4000000 in
theorem laws_eqIntS (k k2 : Nat) (l : List Int) (hpre : bndIS l) : CallsT Try.prog [] F.laws_eqIntS [.sl false k l.length 1 (rowT i64C l), .sl false k2 l.length 1 (rowT i64C l)] (.v (.bool true)) [] := by
  refine fnT C.laws_eqIntS ?_
  have hb1 : l.length * 8 ≤ 140737488351232 := hpre
  refine run ?_
  refine r_for l.length (fun i => [(0, .sl false k l.length 1 (rowT i64C l)), (1, .sl false k2 l.length 1 (rowT i64C l)), (5, .v (.int .i64 i))]) (fun _ => []) (fun _ => True) [] [] trivial Gc.of (fun i hi _ => ?_) (fun _ => ?_)
  · refine run ?_
    exact ⟨[], [], Gc.of, trivial⟩
  · refine run ?_
    exact r_end [] []
instance (k k2 : Nat) (l : List Int) : Con Try.prog F.laws_eqIntS [.sl false k l.length 1 (rowT i64C l), .sl false k2 l.length 1 (rowT i64C l)] (bndIS l) (.v (.bool true)) [] := ⟨fun h => laws_eqIntS k k2 l h⟩

structure FileV where
  name : Int
  safe : ByteArray
  late : ByteArray
instance : Inhabited FileV := ⟨⟨0, ⟨#[]⟩, ⟨#[]⟩⟩⟩
def fileC (x : FileV) : List T := [.v (.int .i64 x.name), .v (.string x.safe), .v (.string x.late)]
instance : RowE fileC 3 := ⟨⟨fun _ => rfl, fun _ => rfl⟩⟩
instance : RowF fileC := ⟨fun _ => rfl⟩
instance : RowV fileC := ⟨fun _ => rfl⟩
attribute [go_sem] fileC
def totFile (safe : ByteArray) (late : ByteArray) : Int := (safe.size : Int) + (late.size : Int)
def bndFile (safe : ByteArray) (late : ByteArray) : Prop := safe.size ≤ 140737488351232 ∧ late.size ≤ 140737488351232
theorem totFile_nn (safe : ByteArray) (late : ByteArray) : 0 ≤ totFile safe late := by
  unfold totFile; omega
def totFileV (x : FileV) : Int := totFile x.safe x.late
def bndFileV (x : FileV) : Prop := bndFile x.safe x.late
theorem totFileV_nn (x : FileV) : 0 ≤ totFileV x := totFile_nn x.safe x.late

set_option maxHeartbeats 4000000 in
theorem laws_eqFile (name : Int) (safe : ByteArray) (late : ByteArray) (hpre : bndFile safe late) : CallsT Try.prog [] F.laws_eqFile [.agg [.v (.int .i64 name), .v (.string safe), .v (.string late)], .agg [.v (.int .i64 name), .v (.string safe), .v (.string late)]] (.v (.bool true)) [] := by
  refine fnT C.laws_eqFile ?_
  obtain ⟨hb0, hb1⟩ := hpre
  refine run ?_
  exact r_end [] []
instance (name : Int) (safe : ByteArray) (late : ByteArray) : Con Try.prog F.laws_eqFile [.agg [.v (.int .i64 name), .v (.string safe), .v (.string late)], .agg [.v (.int .i64 name), .v (.string safe), .v (.string late)]] (bndFile safe late) (.v (.bool true)) [] := ⟨fun h => laws_eqFile name safe late h⟩

def totFileS (l : List FileV) : Int := l.length + sumI totFileV l
def bndFileS (l : List FileV) : Prop := l.length * 40 ≤ 140737488351232 ∧ ∀ x ∈ l, bndFileV x
theorem totFileS_nn (l : List FileV) : 0 ≤ totFileS l := by have := sum_nn totFileV_nn l; unfold totFileS; omega

@[go_sem] theorem mkR_file (n : Nat) : mkR [.v (.int .i64 0), .v (.string ⟨#[]⟩), .v (.string ⟨#[]⟩)] n = ((List.replicate n (default : FileV)).length, rowT fileC (List.replicate n default)) := mkR_enc fileC default n

set_option maxHeartbeats 4000000 in
theorem laws_eqFileS (k k2 : Nat) (l : List FileV) (hpre : bndFileS l) : CallsT Try.prog [] F.laws_eqFileS [.sl false k l.length 3 (rowT fileC l), .sl false k2 l.length 3 (rowT fileC l)] (.v (.bool true)) [] := by
  refine fnT C.laws_eqFileS ?_
  obtain ⟨hb1, hb2⟩ := hpre
  refine run ?_
  refine r_for l.length (fun i => [(0, .sl false k l.length 3 (rowT fileC l)), (1, .sl false k2 l.length 3 (rowT fileC l)), (5, .v (.int .i64 i))]) (fun _ => []) (fun _ => True) [] [] trivial Gc.of (fun i hi _ => ?_) (fun _ => ?_)
  · have hs1 : bndFile (nth l i).safe (nth l i).late := hb2 _ (nth_mem hi)
    refine run ?_
    exact ⟨[], [], Gc.of, trivial⟩
  · refine run ?_
    exact r_end [] []
instance (k k2 : Nat) (l : List FileV) : Con Try.prog F.laws_eqFileS [.sl false k l.length 3 (rowT fileC l), .sl false k2 l.length 3 (rowT fileC l)] (bndFileS l) (.v (.bool true)) [] := ⟨fun h => laws_eqFileS k k2 l h⟩

structure DiskV where
  room : Int
  files : List FileV
instance : Inhabited DiskV := ⟨⟨0, []⟩⟩
def diskC (x : DiskV) : List T := [.v (.int .i64 x.room), .sl false 0 x.files.length 3 (rowT fileC x.files)]
instance : RowE diskC 2 := ⟨⟨fun _ => rfl, fun _ => rfl⟩⟩
instance : RowF diskC := ⟨fun _ => rfl⟩
attribute [go_sem] diskC
def totDisk (files : List FileV) : Int := totFileS files
def bndDisk (files : List FileV) : Prop := bndFileS files
theorem totDisk_nn (files : List FileV) : 0 ≤ totDisk files := by
  have h0 := totFileS_nn files
  unfold totDisk; omega
def totDiskV (x : DiskV) : Int := totDisk x.files
def bndDiskV (x : DiskV) : Prop := bndDisk x.files
theorem totDiskV_nn (x : DiskV) : 0 ≤ totDiskV x := totDisk_nn x.files

set_option maxHeartbeats 4000000 in
theorem laws_eqDisk (k0 : Nat) (q0 : Nat) (room : Int) (files : List FileV) (hpre : bndDisk files) : CallsT Try.prog [] F.laws_eqDisk [.agg [.v (.int .i64 room), .sl false k0 files.length 3 (rowT fileC files)], .agg [.v (.int .i64 room), .sl false q0 files.length 3 (rowT fileC files)]] (.v (.bool true)) [] := by
  refine fnT C.laws_eqDisk ?_
  have hb0 : bndFileS files := hpre
  refine run ?_
  exact r_end [] []
instance (k0 : Nat) (q0 : Nat) (room : Int) (files : List FileV) : Con Try.prog F.laws_eqDisk [.agg [.v (.int .i64 room), .sl false k0 files.length 3 (rowT fileC files)], .agg [.v (.int .i64 room), .sl false q0 files.length 3 (rowT fileC files)]] (bndDisk files) (.v (.bool true)) [] := ⟨fun h => laws_eqDisk k0 q0 room files h⟩

structure CmdV where
  kind : Int
  rel : Int
  node : Int
  size : Int
  dig : ByteArray
instance : Inhabited CmdV := ⟨⟨0, 0, 0, 0, ⟨#[]⟩⟩⟩
def cmdC (x : CmdV) : List T := [.v (.int .i64 x.kind), .v (.int .i64 x.rel), .v (.int .i64 x.node), .v (.int .i64 x.size), .v (.string x.dig)]
instance : RowE cmdC 5 := ⟨⟨fun _ => rfl, fun _ => rfl⟩⟩
instance : RowF cmdC := ⟨fun _ => rfl⟩
instance : RowV cmdC := ⟨fun _ => rfl⟩
attribute [go_sem] cmdC
def totCmd (dig : ByteArray) : Int := (dig.size : Int)
def bndCmd (dig : ByteArray) : Prop := dig.size ≤ 140737488351232
theorem totCmd_nn (dig : ByteArray) : 0 ≤ totCmd dig := by
  unfold totCmd; omega
def totCmdV (x : CmdV) : Int := totCmd x.dig
def bndCmdV (x : CmdV) : Prop := bndCmd x.dig
theorem totCmdV_nn (x : CmdV) : 0 ≤ totCmdV x := totCmd_nn x.dig

set_option maxHeartbeats 4000000 in
theorem laws_szCmd (kind : Int) (rel : Int) (node : Int) (size : Int) (dig : ByteArray) (left : Int) (hpre : bndCmd dig ∧ 0 ≤ left ∧ left ≤ 1048576) : CallsT Try.prog [] F.laws_szCmd [.agg [.v (.int .i64 kind), .v (.int .i64 rel), .v (.int .i64 node), .v (.int .i64 size), .v (.string dig)], .v (.int .i64 left)] (.v (.int .i64 (cutI (left - totCmd dig)))) [] := by
  refine fnT C.laws_szCmd ?_
  obtain ⟨hb, hl0, hl1⟩ := hpre
  have hb0 : dig.size ≤ 140737488351232 := hb
  have hn0 : 0 ≤ (dig.size : Int) := by omega
  refine run ?_
  refine r_ifd (fun h => ?_) (fun h => ?_)
  · rw [show cutI (left - totCmd dig) = -1 from if_pos (by unfold totCmd; omega)]
    refine run ?_
    exact r_end [] []
  rw [show cutI (left - totCmd dig) = left - (dig.size : Int) by unfold cutI totCmd; rw [if_neg (by omega)] <;> omega]
  refine run ?_
  exact r_end [] []
instance (kind : Int) (rel : Int) (node : Int) (size : Int) (dig : ByteArray) (left : Int) : Con Try.prog F.laws_szCmd [.agg [.v (.int .i64 kind), .v (.int .i64 rel), .v (.int .i64 node), .v (.int .i64 size), .v (.string dig)], .v (.int .i64 left)] (bndCmd dig ∧ 0 ≤ left ∧ left ≤ 1048576) (.v (.int .i64 (cutI (left - totCmd dig)))) [] := ⟨fun h => laws_szCmd kind rel node size dig left h⟩

set_option maxHeartbeats 4000000 in
theorem laws_toCmd (kind : Int) (rel : Int) (node : Int) (size : Int) (dig : ByteArray) (hpre : bndCmd dig) : CallsT Try.prog [] F.laws_toCmd [.agg [.v (.int .i64 kind), .v (.int .i64 rel), .v (.int .i64 node), .v (.int .i64 size), .v (.string dig)]] (.agg [.v (.int .i64 kind), .v (.int .i64 rel), .v (.int .i64 node), .v (.int .i64 size), .v (.string dig)]) [] := by
  refine fnT C.laws_toCmd ?_
  have hb0 : dig.size ≤ 140737488351232 := hpre
  refine run ?_
  exact r_end [] []
instance (kind : Int) (rel : Int) (node : Int) (size : Int) (dig : ByteArray) : Con Try.prog F.laws_toCmd [.agg [.v (.int .i64 kind), .v (.int .i64 rel), .v (.int .i64 node), .v (.int .i64 size), .v (.string dig)]] (bndCmd dig) (.agg [.v (.int .i64 kind), .v (.int .i64 rel), .v (.int .i64 node), .v (.int .i64 size), .v (.string dig)]) [] := ⟨fun h => laws_toCmd kind rel node size dig h⟩

set_option maxHeartbeats 4000000 in
theorem laws_eqCmd (kind : Int) (rel : Int) (node : Int) (size : Int) (dig : ByteArray) (hpre : bndCmd dig) : CallsT Try.prog [] F.laws_eqCmd [.agg [.v (.int .i64 kind), .v (.int .i64 rel), .v (.int .i64 node), .v (.int .i64 size), .v (.string dig)], .agg [.v (.int .i64 kind), .v (.int .i64 rel), .v (.int .i64 node), .v (.int .i64 size), .v (.string dig)]] (.v (.bool true)) [] := by
  refine fnT C.laws_eqCmd ?_
  have hb0 : dig.size ≤ 140737488351232 := hpre
  refine run ?_
  exact r_end [] []
instance (kind : Int) (rel : Int) (node : Int) (size : Int) (dig : ByteArray) : Con Try.prog F.laws_eqCmd [.agg [.v (.int .i64 kind), .v (.int .i64 rel), .v (.int .i64 node), .v (.int .i64 size), .v (.string dig)], .agg [.v (.int .i64 kind), .v (.int .i64 rel), .v (.int .i64 node), .v (.int .i64 size), .v (.string dig)]] (bndCmd dig) (.v (.bool true)) [] := ⟨fun h => laws_eqCmd kind rel node size dig h⟩

structure EntryV where
  term : Int
  cmd : CmdV
instance : Inhabited EntryV := ⟨⟨0, default⟩⟩
def entryC (x : EntryV) : List T := [.v (.int .i64 x.term), .v (.int .i64 x.cmd.kind), .v (.int .i64 x.cmd.rel), .v (.int .i64 x.cmd.node), .v (.int .i64 x.cmd.size), .v (.string x.cmd.dig)]
instance : RowE entryC 6 := ⟨⟨fun _ => rfl, fun _ => rfl⟩⟩
instance : RowF entryC := ⟨fun _ => rfl⟩
instance : RowV entryC := ⟨fun _ => rfl⟩
attribute [go_sem] entryC
def totEntry (cmd_dig : ByteArray) : Int := totCmd cmd_dig
def bndEntry (cmd_dig : ByteArray) : Prop := bndCmd cmd_dig
theorem totEntry_nn (cmd_dig : ByteArray) : 0 ≤ totEntry cmd_dig := by
  have h0 := totCmd_nn cmd_dig
  unfold totEntry; omega
def totEntryV (x : EntryV) : Int := totEntry x.cmd.dig
def bndEntryV (x : EntryV) : Prop := bndEntry x.cmd.dig
theorem totEntryV_nn (x : EntryV) : 0 ≤ totEntryV x := totEntry_nn x.cmd.dig

set_option maxHeartbeats 4000000 in
theorem laws_eqEntry (term : Int) (cmd_kind : Int) (cmd_rel : Int) (cmd_node : Int) (cmd_size : Int) (cmd_dig : ByteArray) (hpre : bndEntry cmd_dig) : CallsT Try.prog [] F.laws_eqEntry [.agg [.v (.int .i64 term), .v (.int .i64 cmd_kind), .v (.int .i64 cmd_rel), .v (.int .i64 cmd_node), .v (.int .i64 cmd_size), .v (.string cmd_dig)], .agg [.v (.int .i64 term), .v (.int .i64 cmd_kind), .v (.int .i64 cmd_rel), .v (.int .i64 cmd_node), .v (.int .i64 cmd_size), .v (.string cmd_dig)]] (.v (.bool true)) [] := by
  refine fnT C.laws_eqEntry ?_
  have hb0 : bndCmd cmd_dig := hpre
  refine run ?_
  exact r_end [] []
instance (term : Int) (cmd_kind : Int) (cmd_rel : Int) (cmd_node : Int) (cmd_size : Int) (cmd_dig : ByteArray) : Con Try.prog F.laws_eqEntry [.agg [.v (.int .i64 term), .v (.int .i64 cmd_kind), .v (.int .i64 cmd_rel), .v (.int .i64 cmd_node), .v (.int .i64 cmd_size), .v (.string cmd_dig)], .agg [.v (.int .i64 term), .v (.int .i64 cmd_kind), .v (.int .i64 cmd_rel), .v (.int .i64 cmd_node), .v (.int .i64 cmd_size), .v (.string cmd_dig)]] (bndEntry cmd_dig) (.v (.bool true)) [] := ⟨fun h => laws_eqEntry term cmd_kind cmd_rel cmd_node cmd_size cmd_dig h⟩

def totEntryS (l : List EntryV) : Int := l.length + sumI totEntryV l
def bndEntryS (l : List EntryV) : Prop := l.length * 56 ≤ 140737488351232 ∧ ∀ x ∈ l, bndEntryV x
theorem totEntryS_nn (l : List EntryV) : 0 ≤ totEntryS l := by have := sum_nn totEntryV_nn l; unfold totEntryS; omega

@[go_sem] theorem mkR_entry (n : Nat) : mkR [.v (.int .i64 0), .v (.int .i64 0), .v (.int .i64 0), .v (.int .i64 0), .v (.int .i64 0), .v (.string ⟨#[]⟩)] n = ((List.replicate n (default : EntryV)).length, rowT entryC (List.replicate n default)) := mkR_enc entryC default n

set_option maxHeartbeats 4000000 in
theorem laws_eqEntryS (k k2 : Nat) (l : List EntryV) (hpre : bndEntryS l) : CallsT Try.prog [] F.laws_eqEntryS [.sl false k l.length 6 (rowT entryC l), .sl false k2 l.length 6 (rowT entryC l)] (.v (.bool true)) [] := by
  refine fnT C.laws_eqEntryS ?_
  obtain ⟨hb1, hb2⟩ := hpre
  refine run ?_
  refine r_for l.length (fun i => [(0, .sl false k l.length 6 (rowT entryC l)), (1, .sl false k2 l.length 6 (rowT entryC l)), (5, .v (.int .i64 i))]) (fun _ => []) (fun _ => True) [] [] trivial Gc.of (fun i hi _ => ?_) (fun _ => ?_)
  · have hs1 : bndEntry (nth l i).cmd.dig := hb2 _ (nth_mem hi)
    refine run ?_
    exact ⟨[], [], Gc.of, trivial⟩
  · refine run ?_
    exact r_end [] []
instance (k k2 : Nat) (l : List EntryV) : Con Try.prog F.laws_eqEntryS [.sl false k l.length 6 (rowT entryC l), .sl false k2 l.length 6 (rowT entryC l)] (bndEntryS l) (.v (.bool true)) [] := ⟨fun h => laws_eqEntryS k k2 l h⟩

structure HardV where
  term : Int
  vote : Int
  log : List EntryV
instance : Inhabited HardV := ⟨⟨0, 0, []⟩⟩
def hardC (x : HardV) : List T := [.v (.int .i64 x.term), .v (.int .i64 x.vote), .sl false 0 x.log.length 6 (rowT entryC x.log)]
instance : RowE hardC 3 := ⟨⟨fun _ => rfl, fun _ => rfl⟩⟩
instance : RowF hardC := ⟨fun _ => rfl⟩
attribute [go_sem] hardC
def totHard (log : List EntryV) : Int := totEntryS log
def bndHard (log : List EntryV) : Prop := bndEntryS log
theorem totHard_nn (log : List EntryV) : 0 ≤ totHard log := by
  have h0 := totEntryS_nn log
  unfold totHard; omega
def totHardV (x : HardV) : Int := totHard x.log
def bndHardV (x : HardV) : Prop := bndHard x.log
theorem totHardV_nn (x : HardV) : 0 ≤ totHardV x := totHard_nn x.log

set_option maxHeartbeats 4000000 in
theorem laws_eqHard (k0 : Nat) (q0 : Nat) (term : Int) (vote : Int) (log : List EntryV) (hpre : bndHard log) : CallsT Try.prog [] F.laws_eqHard [.agg [.v (.int .i64 term), .v (.int .i64 vote), .sl false k0 log.length 6 (rowT entryC log)], .agg [.v (.int .i64 term), .v (.int .i64 vote), .sl false q0 log.length 6 (rowT entryC log)]] (.v (.bool true)) [] := by
  refine fnT C.laws_eqHard ?_
  have hb0 : bndEntryS log := hpre
  refine run ?_
  exact r_end [] []
instance (k0 : Nat) (q0 : Nat) (term : Int) (vote : Int) (log : List EntryV) : Con Try.prog F.laws_eqHard [.agg [.v (.int .i64 term), .v (.int .i64 vote), .sl false k0 log.length 6 (rowT entryC log)], .agg [.v (.int .i64 term), .v (.int .i64 vote), .sl false q0 log.length 6 (rowT entryC log)]] (bndHard log) (.v (.bool true)) [] := ⟨fun h => laws_eqHard k0 q0 term vote log h⟩

end Go.TL
