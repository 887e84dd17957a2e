/- Files, disks, commands, entries, hards: printed by a program of this work. No conditions but those that are written. -/
import Derived.Test.YtneiifghegdfgaaJA5A7
namespace Go.TL
set_option linter.unusedSimpArgs false
open Go.Proofs Go.RowKit
attribute [local irreducible] wpOpsT wpT EndT Ex.seq Ex.block W

def totIS (l : List Int) : Int := l.length
def bndIS (l : List Int) : Prop := l.length * 8 ≤ 140737488351232
theorem totIS_nn (l : List Int) : 0 ≤ totIS l := by unfold totIS; omega

structure FileV where
  name : Int
  safe : ByteArray
  late : ByteArray
instance : Inhabited FileV := ⟨⟨0, ⟨#[]⟩, ⟨#[]⟩⟩⟩
def fileC (x : FileV) : List T := [.v (.int .i64 x.name), .v (.string x.safe), .v (.string x.late)]
instance : RowE fileC 3 := ⟨⟨fun _ => rfl, fun _ => rfl⟩⟩
instance : RowF fileC := ⟨fun _ => rfl⟩
instance : RowV fileC := ⟨fun _ => rfl⟩
attribute [go_sem] fileC
def totFile (safe : ByteArray) (late : ByteArray) : Int := (safe.size : Int) + (late.size : Int)
def bndFile (safe : ByteArray) (late : ByteArray) : Prop := safe.size ≤ 140737488351232 ∧ late.size ≤ 140737488351232
theorem totFile_nn (safe : ByteArray) (late : ByteArray) : 0 ≤ totFile safe late := by
  unfold totFile; omega
def totFileV (x : FileV) : Int := totFile x.safe x.late
def bndFileV (x : FileV) : Prop := bndFile x.safe x.late
theorem totFileV_nn (x : FileV) : 0 ≤ totFileV x := totFile_nn x.safe x.late

set_option maxHeartbeats 4000000 in
theorem laws_szFile (name : Int) (safe : ByteArray) (late : ByteArray) (left : Int) (hpre : bndFile safe late ∧ 0 ≤ left ∧ left ≤ 1048576) : CallsT Try.prog [] F.laws_szFile [.agg [.v (.int .i64 name), .v (.string safe), .v (.string late)], .v (.int .i64 left)] (.v (.int .i64 (cutI (left - totFile safe late)))) [] := by
  refine fnT C.laws_szFile ?_
  obtain ⟨hb, hl0, hl1⟩ := hpre
  obtain ⟨hb0, hb1⟩ := hb
  have hn0 : 0 ≤ (safe.size : Int) := by omega
  have hn1 : 0 ≤ (late.size : Int) := by omega
  refine run ?_
  refine r_ifd (fun h => ?_) (fun h => ?_)
  · rw [show cutI (left - totFile safe late) = -1 from if_pos (by unfold totFile; omega)]
    refine run ?_
    exact r_end [] []
  refine run ?_
  refine r_ifd (fun h => ?_) (fun h => ?_)
  · rw [show cutI (left - totFile safe late) = -1 from if_pos (by unfold totFile; omega)]
    refine run ?_
    exact r_end [] []
  rw [show cutI (left - totFile safe late) = left - (safe.size : Int) - (late.size : Int) by unfold cutI totFile; rw [if_neg (by omega)] <;> omega]
  refine run ?_
  exact r_end [] []
instance (name : Int) (safe : ByteArray) (late : ByteArray) (left : Int) : Con Try.prog F.laws_szFile [.agg [.v (.int .i64 name), .v (.string safe), .v (.string late)], .v (.int .i64 left)] (bndFile safe late ∧ 0 ≤ left ∧ left ≤ 1048576) (.v (.int .i64 (cutI (left - totFile safe late)))) [] := ⟨fun h => laws_szFile name safe late left h⟩

set_option maxHeartbeats 4000000 in
theorem laws_toFile (name : Int) (safe : ByteArray) (late : ByteArray) (hpre : bndFile safe late) : CallsT Try.prog [] F.laws_toFile [.agg [.v (.int .i64 name), .v (.string safe), .v (.string late)]] (.agg [.v (.int .i64 name), .v (.string safe), .v (.string late)]) [] := by
  refine fnT C.laws_toFile ?_
  obtain ⟨hb0, hb1⟩ := hpre
  refine run ?_
  exact r_end [] []
instance (name : Int) (safe : ByteArray) (late : ByteArray) : Con Try.prog F.laws_toFile [.agg [.v (.int .i64 name), .v (.string safe), .v (.string late)]] (bndFile safe late) (.agg [.v (.int .i64 name), .v (.string safe), .v (.string late)]) [] := ⟨fun h => laws_toFile name safe late h⟩

set_option maxHeartbeats 4000000 in
theorem laws_eqFile (name : Int) (safe : ByteArray) (late : ByteArray) (hpre : bndFile safe late) : CallsT Try.prog [] F.laws_eqFile [.agg [.v (.int .i64 name), .v (.string safe), .v (.string late)], .agg [.v (.int .i64 name), .v (.string safe), .v (.string late)]] (.v (.bool true)) [] := by
  refine fnT C.laws_eqFile ?_
  obtain ⟨hb0, hb1⟩ := hpre
  refine run ?_
  exact r_end [] []
instance (name : Int) (safe : ByteArray) (late : ByteArray) : Con Try.prog F.laws_eqFile [.agg [.v (.int .i64 name), .v (.string safe), .v (.string late)], .agg [.v (.int .i64 name), .v (.string safe), .v (.string late)]] (bndFile safe late) (.v (.bool true)) [] := ⟨fun h => laws_eqFile name safe late h⟩

def totFileS (l : List FileV) : Int := l.length + sumI totFileV l
def bndFileS (l : List FileV) : Prop := l.length * 40 ≤ 140737488351232 ∧ ∀ x ∈ l, bndFileV x
theorem totFileS_nn (l : List FileV) : 0 ≤ totFileS l := by have := sum_nn totFileV_nn l; unfold totFileS; omega

set_option maxHeartbeats 4000000 in
theorem laws_szFileS (k : Nat) (l : List FileV) (left : Int) (hpre : bndFileS l ∧ 0 ≤ left ∧ left ≤ 1048576) : CallsT Try.prog [] F.laws_szFileS [.sl false k l.length 3 (rowT fileC l), .v (.int .i64 left)] (.v (.int .i64 (cutI (left - totFileS l)))) [] := by
  refine fnT C.laws_szFileS ?_
  obtain ⟨⟨hb1, hb2⟩, h0, h1⟩ := hpre
  have hn := sum_nn totFileV_nn l
  refine run ?_
  refine r_ifd (fun h => ?_) (fun h => ?_)
  · rw [show cutI (left - totFileS l) = -1 from if_pos (by unfold totFileS; omega)]
    refine run ?_
    exact r_end [] []
  refine run ?_
  refine r_for l.length (fun i => [(0, .sl false k l.length 3 (rowT fileC l)), (1, .v (.int .i64 (left - l.length - sumI totFileV (l.take i)))), (5, .v (.int .i64 i))]) (fun _ => []) (fun i => 0 ≤ left - l.length - sumI totFileV (l.take i)) [] [] (by simp [sumI]; omega) Gc.of (fun i hi hv => ?_) (fun hv => ?_)
  · have hs := sum_take totFileV hi
    have hs0 := sum_nn totFileV_nn (l.take i)
    have hs1 : bndFile (nth l i).safe (nth l i).late := hb2 _ (nth_mem hi)
    have hs2 := sum_le totFileV_nn l (i + 1)
    have hs3 : totFile (nth l i).safe (nth l i).late = totFileV (nth l i) := rfl
    refine run ?_
    have e : left - l.length - sumI totFileV (l.take i) - totFileV (nth l i) = left - l.length - sumI totFileV (l.take (i + 1)) := by omega
    rw [hs3, e]
    refine r_ifd (fun h => ?_) (fun h => ?_)
    · have h := cutI_neg h
      rw [show cutI (left - totFileS l) = -1 from if_pos (by unfold totFileS; omega)]
      refine run ?_
      exact r_end [] []
    · obtain ⟨e1, h2⟩ := cutI_nn h
      rw [e1]
      refine run ?_
      exact ⟨[], [], Gc.of, h2⟩
  · rw [show cutI (left - totFileS l) = left - l.length - sumI totFileV (l.take l.length) by rw [List.take_length] at *; unfold cutI totFileS; rw [if_neg (by omega)] <;> omega]
    refine run ?_
    exact r_end [] []
instance (k : Nat) (l : List FileV) (left : Int) : Con Try.prog F.laws_szFileS [.sl false k l.length 3 (rowT fileC l), .v (.int .i64 left)] (bndFileS l ∧ 0 ≤ left ∧ left ≤ 1048576) (.v (.int .i64 (cutI (left - totFileS l)))) [] := ⟨fun h => laws_szFileS k l left h⟩

@[go_sem] theorem mkR_file (n : Nat) : mkR [.v (.int .i64 0), .v (.string ⟨#[]⟩), .v (.string ⟨#[]⟩)] n = ((List.replicate n (default : FileV)).length, rowT fileC (List.replicate n default)) := mkR_enc fileC default n

set_option maxHeartbeats 4000000 in
theorem laws_toFileS (k : Nat) (l : List FileV) (hpre : bndFileS l) : CallsT Try.prog [] F.laws_toFileS [.sl false k l.length 3 (rowT fileC l)] (.sl false 0 l.length 3 (rowT fileC l)) [] := by
  refine fnT C.laws_toFileS ?_
  obtain ⟨hb1, hb2⟩ := hpre
  refine run ?_
  rw [Int.toNat_natCast, List.length_replicate]
  refine r_for l.length (fun i => [(0, .sl false k l.length 3 (rowT fileC l)), (3, .ref 0 [] 0 l.length), (4, .v (.int .i64 i))]) (fun i => [⟨3, true, rowT fileC (l.take i ++ (List.replicate l.length default).drop i)⟩]) (fun _ => True) [0] [] trivial Gc.of (fun i hi _ => ?_) (fun _ => ?_)
  · have hs1 : bndFile (nth l i).safe (nth l i).late := hb2 _ (nth_mem hi)
    refine run ?_
    refine r_sto (enc := fileC) _ i (nth l i) ?_
    rw [set_mix hi (by simp)]
    refine run ?_
    exact ⟨[0], [], Gc.of, trivial⟩
  · rw [List.take_length, List.drop_of_length_le (by simp), List.append_nil]
    refine run ?_
    exact r_end [] [0]
instance (k : Nat) (l : List FileV) : Con Try.prog F.laws_toFileS [.sl false k l.length 3 (rowT fileC l)] (bndFileS l) (.sl false 0 l.length 3 (rowT fileC l)) [] := ⟨fun h => laws_toFileS k l h⟩

set_option maxHeartbeats 4000000 in
theorem laws_eqFileS (k k2 : Nat) (l : List FileV) (hpre : bndFileS l) : CallsT Try.prog [] F.laws_eqFileS [.sl false k l.length 3 (rowT fileC l), .sl false k2 l.length 3 (rowT fileC l)] (.v (.bool true)) [] := by
  refine fnT C.laws_eqFileS ?_
  obtain ⟨hb1, hb2⟩ := hpre
  refine run ?_
  refine r_for l.length (fun i => [(0, .sl false k l.length 3 (rowT fileC l)), (1, .sl false k2 l.length 3 (rowT fileC l)), (5, .v (.int .i64 i))]) (fun _ => []) (fun _ => True) [] [] trivial Gc.of (fun i hi _ => ?_) (fun _ => ?_)
  · have hs1 : bndFile (nth l i).safe (nth l i).late := hb2 _ (nth_mem hi)
    refine run ?_
    exact ⟨[], [], Gc.of, trivial⟩
  · refine run ?_
    exact r_end [] []
instance (k k2 : Nat) (l : List FileV) : Con Try.prog F.laws_eqFileS [.sl false k l.length 3 (rowT fileC l), .sl false k2 l.length 3 (rowT fileC l)] (bndFileS l) (.v (.bool true)) [] := ⟨fun h => laws_eqFileS k k2 l h⟩

structure DiskV where
  room : Int
  files : List FileV
instance : Inhabited DiskV := ⟨⟨0, []⟩⟩
def diskC (x : DiskV) : List T := [.v (.int .i64 x.room), .sl false 0 x.files.length 3 (rowT fileC x.files)]
instance : RowE diskC 2 := ⟨⟨fun _ => rfl, fun _ => rfl⟩⟩
instance : RowF diskC := ⟨fun _ => rfl⟩
attribute [go_sem] diskC
def totDisk (files : List FileV) : Int := totFileS files
def bndDisk (files : List FileV) : Prop := bndFileS files
theorem totDisk_nn (files : List FileV) : 0 ≤ totDisk files := by
  have h0 := totFileS_nn files
  unfold totDisk; omega
def totDiskV (x : DiskV) : Int := totDisk x.files
def bndDiskV (x : DiskV) : Prop := bndDisk x.files
theorem totDiskV_nn (x : DiskV) : 0 ≤ totDiskV x := totDisk_nn x.files

set_option maxHeartbeats 4000000 in
theorem laws_szDisk (k0 : Nat) (room : Int) (files : List FileV) (left : Int) (hpre : bndDisk files ∧ 0 ≤ left ∧ left ≤ 1048576) : CallsT Try.prog [] F.laws_szDisk [.agg [.v (.int .i64 room), .sl false k0 files.length 3 (rowT fileC files)], .v (.int .i64 left)] (.v (.int .i64 (cutI (left - totDisk files)))) [] := by
  refine fnT C.laws_szDisk ?_
  obtain ⟨hb, hl0, hl1⟩ := hpre
  have hb0 : bndFileS files := hb
  have hn0 : 0 ≤ totFileS files := totFileS_nn files
  refine run ?_
  refine r_ifd (fun h => ?_) (fun h => ?_)
  · have h := cutI_neg h; rw [show cutI (left - totDisk files) = -1 from if_pos (by unfold totDisk; omega)]
    refine run ?_
    exact r_end [] []
  obtain ⟨e0, h⟩ := cutI_nn h
  rw [e0]
  rw [show cutI (left - totDisk files) = left - totFileS files by unfold cutI totDisk; rw [if_neg (by omega)] <;> omega]
  refine run ?_
  exact r_end [] []
instance (k0 : Nat) (room : Int) (files : List FileV) (left : Int) : Con Try.prog F.laws_szDisk [.agg [.v (.int .i64 room), .sl false k0 files.length 3 (rowT fileC files)], .v (.int .i64 left)] (bndDisk files ∧ 0 ≤ left ∧ left ≤ 1048576) (.v (.int .i64 (cutI (left - totDisk files)))) [] := ⟨fun h => laws_szDisk k0 room files left h⟩

set_option maxHeartbeats 4000000 in
theorem laws_toDisk (k0 : Nat) (room : Int) (files : List FileV) (hpre : bndDisk files) : CallsT Try.prog [] F.laws_toDisk [.agg [.v (.int .i64 room), .sl false k0 files.length 3 (rowT fileC files)]] (.agg [.v (.int .i64 room), .sl false 0 files.length 3 (rowT fileC files)]) [] := by
  refine fnT C.laws_toDisk ?_
  have hb0 : bndFileS files := hpre
  refine run ?_
  exact r_end [] []
instance (k0 : Nat) (room : Int) (files : List FileV) : Con Try.prog F.laws_toDisk [.agg [.v (.int .i64 room), .sl false k0 files.length 3 (rowT fileC files)]] (bndDisk files) (.agg [.v (.int .i64 room), .sl false 0 files.length 3 (rowT fileC files)]) [] := ⟨fun h => laws_toDisk k0 room files h⟩

set_option maxHeartbeats 4000000 in
theorem laws_eqDisk (k0 : Nat) (q0 : Nat) (room : Int) (files : List FileV) (hpre : bndDisk files) : CallsT Try.prog [] F.laws_eqDisk [.agg [.v (.int .i64 room), .sl false k0 files.length 3 (rowT fileC files)], .agg [.v (.int .i64 room), .sl false q0 files.length 3 (rowT fileC files)]] (.v (.bool true)) [] := by
  refine fnT C.laws_eqDisk ?_
  have hb0 : bndFileS files := hpre
  refine run ?_
  exact r_end [] []
instance (k0 : Nat) (q0 : Nat) (room : Int) (files : List FileV) : Con Try.prog F.laws_eqDisk [.agg [.v (.int .i64 room), .sl false k0 files.length 3 (rowT fileC files)], .agg [.v (.int .i64 room), .sl false q0 files.length 3 (rowT fileC files)]] (bndDisk files) (.v (.bool true)) [] := ⟨fun h => laws_eqDisk k0 q0 room files h⟩

structure CmdV where
  kind : Int
  rel : Int
  node : Int
  size : Int
  dig : ByteArray
instance : Inhabited CmdV := ⟨⟨0, 0, 0, 0, ⟨#[]⟩⟩⟩
def cmdC (x : CmdV) : List T := [.v (.int .i64 x.kind), .v (.int .i64 x.rel), .v (.int .i64 x.node), .v (.int .i64 x.size), .v (.string x.dig)]
instance : RowE cmdC 5 := ⟨⟨fun _ => rfl, fun _ => rfl⟩⟩
instance : RowF cmdC := ⟨fun _ => rfl⟩
instance : RowV cmdC := ⟨fun _ => rfl⟩
attribute [go_sem] cmdC
def totCmd (dig : ByteArray) : Int := (dig.size : Int)
def bndCmd (dig : ByteArray) : Prop := dig.size ≤ 140737488351232
theorem totCmd_nn (dig : ByteArray) : 0 ≤ totCmd dig := by
  unfold totCmd; omega
def totCmdV (x : CmdV) : Int := totCmd x.dig
def bndCmdV (x : CmdV) : Prop := bndCmd x.dig
theorem totCmdV_nn (x : CmdV) : 0 ≤ totCmdV x := totCmd_nn x.dig

structure EntryV where
  term : Int
  cmd : CmdV
instance : Inhabited EntryV := ⟨⟨0, default⟩⟩
def entryC (x : EntryV) : List T := [.v (.int .i64 x.term), .v (.int .i64 x.cmd.kind), .v (.int .i64 x.cmd.rel), .v (.int .i64 x.cmd.node), .v (.int .i64 x.cmd.size), .v (.string x.cmd.dig)]
instance : RowE entryC 6 := ⟨⟨fun _ => rfl, fun _ => rfl⟩⟩
instance : RowF entryC := ⟨fun _ => rfl⟩
instance : RowV entryC := ⟨fun _ => rfl⟩
attribute [go_sem] entryC
def totEntry (cmd_dig : ByteArray) : Int := totCmd cmd_dig
def bndEntry (cmd_dig : ByteArray) : Prop := bndCmd cmd_dig
theorem totEntry_nn (cmd_dig : ByteArray) : 0 ≤ totEntry cmd_dig := by
  have h0 := totCmd_nn cmd_dig
  unfold totEntry; omega
def totEntryV (x : EntryV) : Int := totEntry x.cmd.dig
def bndEntryV (x : EntryV) : Prop := bndEntry x.cmd.dig
theorem totEntryV_nn (x : EntryV) : 0 ≤ totEntryV x := totEntry_nn x.cmd.dig

def totEntryS (l : List EntryV) : Int := l.length + sumI totEntryV l
def bndEntryS (l : List EntryV) : Prop := l.length * 56 ≤ 140737488351232 ∧ ∀ x ∈ l, bndEntryV x
theorem totEntryS_nn (l : List EntryV) : 0 ≤ totEntryS l := by have := sum_nn totEntryV_nn l; unfold totEntryS; omega

@[go_sem] theorem mkR_entry (n : Nat) : mkR [.v (.int .i64 0), .v (.int .i64 0), .v (.int .i64 0), .v (.int .i64 0), .v (.int .i64 0), .v (.string ⟨#[]⟩)] n = ((List.replicate n (default : EntryV)).length, rowT entryC (List.replicate n default)) := mkR_enc entryC default n

structure HardV where
  term : Int
  vote : Int
  log : List EntryV
instance : Inhabited HardV := ⟨⟨0, 0, []⟩⟩
def hardC (x : HardV) : List T := [.v (.int .i64 x.term), .v (.int .i64 x.vote), .sl false 0 x.log.length 6 (rowT entryC x.log)]
instance : RowE hardC 3 := ⟨⟨fun _ => rfl, fun _ => rfl⟩⟩
instance : RowF hardC := ⟨fun _ => rfl⟩
attribute [go_sem] hardC
def totHard (log : List EntryV) : Int := totEntryS log
def bndHard (log : List EntryV) : Prop := bndEntryS log
theorem totHard_nn (log : List EntryV) : 0 ≤ totHard log := by
  have h0 := totEntryS_nn log
  unfold totHard; omega
def totHardV (x : HardV) : Int := totHard x.log
def bndHardV (x : HardV) : Prop := bndHard x.log
theorem totHardV_nn (x : HardV) : 0 ≤ totHardV x := totHard_nn x.log

end Go.TL
