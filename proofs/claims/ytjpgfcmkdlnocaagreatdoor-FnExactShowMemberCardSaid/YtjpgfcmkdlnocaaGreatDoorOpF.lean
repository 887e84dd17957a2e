/- Fleets that come in: printed by a program of this work. No conditions but those that are written. -/
import Derived.Test.YtjpgfcmkdlnocaaGreatDoorE3
import Derived.Test.YtjpgfcmkdlnocaaGreatDoorOp0
namespace Go.TL
set_option linter.unusedSimpArgs false
open Go.Proofs Go.RowKit
attribute [local irreducible] wpOpsT wpT EndT Ex.seq Ex.block W

theorem open_stringS : Opens Tryz.prog Y.sl_string (fun l : List ByteArray => [.sl false 0 l.length 1 (rowT strC l)]) bndS :=
  (Opens.sl un_sl_string t9_sz t9_by (by decide) (fun _ => rfl) (.str t9_un)).map (fun l => l) (fun _ => rfl) (fun _ h => ⟨by have := h.1; omega, h.2⟩)
theorem open_intS : Opens Tryz.prog Y.sl_int (fun l : List Int => [.sl false 0 l.length 1 (rowT i64C l)]) bndIS :=
  (Opens.sl un_sl_int t3_sz t3_by (by decide) (fun _ => rfl) (.int t3_un)).map (fun l => l) (fun _ => rfl) (fun _ h => h.1)
theorem open_Held : Opens Tryz.prog Y.laws_Held heldC bndH :=
  (Opens.st so_laws_Held sz_laws_Held (.cons t3_sz (.int t3_un) (.cons sz_laws_Parcel (Opens.st so_laws_Parcel sz_laws_Parcel (.cons t3_sz (.int t3_un) (.cons t9_sz (.str t9_un) (.cons sz_sl_string open_stringS .nil (by decide)) (by decide)) (by decide))) .nil (by decide)) (by decide))).map
    (fun x : Int × (Int × ByteArray × List ByteArray × Unit) × Unit => (⟨x.1, x.2.1.1, x.2.1.2.1, x.2.1.2.2.1⟩ : HeldV)) (fun _ => rfl) (fun _ h => ⟨h.2.1.2.1, h.2.1.2.2.1⟩)
theorem open_File : Opens Tryz.prog Y.laws_File fileC (bndFileV) :=
  (Opens.st so_laws_File sz_laws_File (.cons t3_sz (.int t3_un) (.cons t9_sz (.str t9_un) (.cons t9_sz (.str t9_un) .nil (by decide)) (by decide)) (by decide))).map (fun x : Int × ByteArray × ByteArray × Unit => (⟨x.1, x.2.1, x.2.2.1⟩ : FileV)) (fun _ => rfl) (fun _ h => ⟨h.2.1, h.2.2.1⟩)
theorem open_FileS : Opens Tryz.prog Y.sl_laws_File (fun l : List FileV => [.sl false 0 l.length 3 (rowT fileC l)]) bndFileS :=
  (Opens.sl un_sl_laws_File sz_laws_File by_laws_File (by decide) (fun _ => rfl) open_File).map (fun l => l) (fun _ => rfl) (fun _ h => h)
theorem open_Disk : Opens Tryz.prog Y.laws_Disk diskC (bndDiskV) :=
  (Opens.st so_laws_Disk sz_laws_Disk (.cons t3_sz (.int t3_un) (.cons sz_sl_laws_File open_FileS .nil (by decide)) (by decide))).map (fun x : Int × List FileV × Unit => (⟨x.1, x.2.1⟩ : DiskV)) (fun _ => rfl) (fun _ h => h.2.1)
theorem open_Cmd : Opens Tryz.prog Y.laws_Cmd cmdC (bndCmdV) :=
  (Opens.st so_laws_Cmd sz_laws_Cmd (.cons t3_sz (.int t3_un) (.cons t3_sz (.int t3_un) (.cons t3_sz (.int t3_un) (.cons t3_sz (.int t3_un) (.cons t9_sz (.str t9_un) .nil (by decide)) (by decide)) (by decide)) (by decide)) (by decide))).map (fun x : Int × Int × Int × Int × ByteArray × Unit => (⟨x.1, x.2.1, x.2.2.1, x.2.2.2.1, x.2.2.2.2.1⟩ : CmdV)) (fun _ => rfl) (fun _ h => h.2.2.2.2.1)
theorem open_Entry : Opens Tryz.prog Y.laws_Entry entryC (bndEntryV) :=
  (Opens.st so_laws_Entry sz_laws_Entry (.cons t3_sz (.int t3_un) (.cons sz_laws_Cmd open_Cmd .nil (by decide)) (by decide))).map (fun x : Int × CmdV × Unit => (⟨x.1, x.2.1⟩ : EntryV)) (fun _ => rfl) (fun _ h => h.2.1)
theorem open_EntryS : Opens Tryz.prog Y.sl_laws_Entry (fun l : List EntryV => [.sl false 0 l.length 6 (rowT entryC l)]) bndEntryS :=
  (Opens.sl un_sl_laws_Entry sz_laws_Entry by_laws_Entry (by decide) (fun _ => rfl) open_Entry).map (fun l => l) (fun _ => rfl) (fun _ h => h)
theorem open_Hard : Opens Tryz.prog Y.laws_Hard hardC (bndHardV) :=
  (Opens.st so_laws_Hard sz_laws_Hard (.cons t3_sz (.int t3_un) (.cons t3_sz (.int t3_un) (.cons sz_sl_laws_Entry open_EntryS .nil (by decide)) (by decide)) (by decide))).map (fun x : Int × Int × List EntryV × Unit => (⟨x.1, x.2.1, x.2.2.1⟩ : HardV)) (fun _ => rfl) (fun _ h => h.2.2.1)
theorem open_Rel : Opens Tryz.prog Y.laws_Rel relC (bndRelV) :=
  (Opens.st so_laws_Rel sz_laws_Rel (.cons t3_sz (.int t3_un) (.cons t3_sz (.int t3_un) (.cons t9_sz (.str t9_un) (.cons sz_sl_int open_intS (.cons t3_sz (.int t3_un) .nil (by decide)) (by decide)) (by decide)) (by decide)) (by decide))).map (fun x : Int × Int × ByteArray × List Int × Int × Unit => (⟨x.1, x.2.1, x.2.2.1, x.2.2.2.1, x.2.2.2.2.1⟩ : RelV)) (fun _ => rfl) (fun _ h => ⟨h.2.2.1, h.2.2.2.1⟩)
theorem open_RelS : Opens Tryz.prog Y.sl_laws_Rel (fun l : List RelV => [.sl false 0 l.length 5 (rowT relC l)]) bndRelS :=
  (Opens.sl un_sl_laws_Rel sz_laws_Rel by_laws_Rel (by decide) (fun _ => rfl) open_Rel).map (fun l => l) (fun _ => rfl) (fun _ h => h)
theorem open_Roll : Opens Tryz.prog Y.laws_Roll rollC (bndRollV) :=
  (Opens.st so_laws_Roll sz_laws_Roll (.cons t3_sz (.int t3_un) (.cons sz_sl_laws_Rel open_RelS (.cons t3_sz (.int t3_un) (.cons sz_sl_int open_intS .nil (by decide)) (by decide)) (by decide)) (by decide))).map (fun x : Int × List RelV × Int × List Int × Unit => (⟨x.1, x.2.1, x.2.2.1, x.2.2.2.1⟩ : RollV)) (fun _ => rfl) (fun _ h => ⟨h.2.1, h.2.2.2.1⟩)
theorem open_Raft : Opens Tryz.prog Y.laws_Raft raftC (bndRaftV) :=
  (Opens.st so_laws_Raft sz_laws_Raft (.cons t3_sz (.int t3_un) (.cons t3_sz (.int t3_un) (.cons t3_sz (.int t3_un) (.cons t3_sz (.int t3_un) (.cons sz_laws_Hard open_Hard (.cons sz_sl_int open_intS (.cons sz_sl_int open_intS (.cons sz_sl_int open_intS .nil (by decide)) (by decide)) (by decide)) (by decide)) (by decide)) (by decide)) (by decide)) (by decide))).map (fun x : Int × Int × Int × Int × HardV × List Int × List Int × List Int × Unit => (⟨x.1, x.2.1, x.2.2.1, x.2.2.2.1, x.2.2.2.2.1, x.2.2.2.2.2.1, x.2.2.2.2.2.2.1, x.2.2.2.2.2.2.2.1⟩ : RaftV)) (fun _ => rfl) (fun _ h => ⟨h.2.2.2.2.1, h.2.2.2.2.2.1, h.2.2.2.2.2.2.1, h.2.2.2.2.2.2.2.1⟩)
theorem open_HeldS : Opens Tryz.prog Y.sl_laws_Held (fun l : List HeldV => [.sl false 0 l.length 4 (rowT heldC l)]) bndHS :=
  (Opens.sl un_sl_laws_Held sz_laws_Held by_laws_Held (by decide) (fun _ => rfl) open_Held).map (fun l => l) (fun _ => rfl) (fun _ h => ⟨by have := h.1; omega, h.2⟩)
theorem open_Member : Opens Tryz.prog Y.laws_Member memberC (bndMemberV) :=
  (Opens.st so_laws_Member sz_laws_Member (.cons t4_sz (.bool t4_un) (.cons sz_laws_Disk open_Disk (.cons sz_laws_Raft open_Raft (.cons t3_sz (.int t3_un) (.cons sz_laws_Roll open_Roll (.cons sz_sl_laws_Held open_HeldS .nil (by decide)) (by decide)) (by decide)) (by decide)) (by decide)) (by decide))).map (fun x : Bool × DiskV × RaftV × Int × RollV × List HeldV × Unit => (⟨x.1, x.2.1, x.2.2.1, x.2.2.2.1, x.2.2.2.2.1, x.2.2.2.2.2.1⟩ : MemberV)) (fun _ => rfl) (fun _ h => ⟨h.2.1, h.2.2.1, h.2.2.2.2.1, h.2.2.2.2.2.1⟩)
theorem open_MemberS : Opens Tryz.prog Y.sl_laws_Member (fun l : List MemberV => [.sl false 0 l.length 19 (rowT memberC l)]) bndMemberS :=
  (Opens.sl un_sl_laws_Member sz_laws_Member by_laws_Member (by decide) (fun _ => rfl) open_Member).map (fun l => l) (fun _ => rfl) (fun _ h => h)
theorem open_Flight : Opens Tryz.prog Y.laws_Flight flightC (bndFlightV) :=
  (Opens.st so_laws_Flight sz_laws_Flight (.cons t3_sz (.int t3_un) (.cons t9_sz (.str t9_un) .nil (by decide)) (by decide))).map (fun x : Int × ByteArray × Unit => (⟨x.1, x.2.1⟩ : FlightV)) (fun _ => rfl) (fun _ h => h.2.1)
theorem open_FlightS : Opens Tryz.prog Y.sl_laws_Flight (fun l : List FlightV => [.sl false 0 l.length 2 (rowT flightC l)]) bndFlightS :=
  (Opens.sl un_sl_laws_Flight sz_laws_Flight by_laws_Flight (by decide) (fun _ => rfl) open_Flight).map (fun l => l) (fun _ => rfl) (fun _ h => h)
theorem open_Fleet : Opens Tryz.prog Y.laws_Fleet fleetC (bndFleetV) :=
  (Opens.st so_laws_Fleet sz_laws_Fleet (.cons t3_sz (.int t3_un) (.cons sz_sl_laws_Member open_MemberS (.cons sz_sl_laws_Flight open_FlightS .nil (by decide)) (by decide)) (by decide))).map (fun x : Int × List MemberV × List FlightV × Unit => (⟨x.1, x.2.1, x.2.2.1⟩ : FleetV)) (fun _ => rfl) (fun _ h => ⟨h.2.1, h.2.2.1⟩)
end Go.TL
