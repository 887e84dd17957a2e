/- Files and disks are opened. No conditions. -/
import Derived.Test.YtneiifghegdfgaaE1
import Derived.Test.YtneiifghegdfgaaOp0
namespace Go.TL
set_option linter.unusedSimpArgs false
open Go.Proofs Go.RowKit
attribute [local irreducible] wpOpsT wpT EndT Ex.seq Ex.block W

theorem open_File : Opens Try.prog Y.laws_File fileC (bndFileV) :=
  (Opens.st so_laws_File sz_laws_File (.cons t3_sz (.int t3_un) (.cons t9_sz (.str t9_un) (.cons t9_sz (.str t9_un) .nil (by decide)) (by decide)) (by decide))).map (fun x : Int × ByteArray × ByteArray × Unit => (⟨x.1, x.2.1, x.2.2.1⟩ : FileV)) (fun _ => rfl) (fun _ h => ⟨h.2.1, h.2.2.1⟩)
theorem open_FileS : Opens Try.prog Y.sl_laws_File (fun l : List FileV => [.sl false 0 l.length 3 (rowT fileC l)]) bndFileS :=
  (Opens.sl un_sl_laws_File sz_laws_File by_laws_File (by decide) (fun _ => rfl) open_File).map (fun l => l) (fun _ => rfl) (fun _ h => h)
theorem open_Disk : Opens Try.prog Y.laws_Disk diskC (bndDiskV) :=
  (Opens.st so_laws_Disk sz_laws_Disk (.cons t3_sz (.int t3_un) (.cons sz_sl_laws_File open_FileS .nil (by decide)) (by decide))).map (fun x : Int × List FileV × Unit => (⟨x.1, x.2.1⟩ : DiskV)) (fun _ => rfl) (fun _ h => h.2.1)
end Go.TL
