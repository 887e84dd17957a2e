/- Rolls and commands that come in: printed by a program of this work. No conditions but those that are written. -/
import Derived.Test.YthkahdjgkcccgaaE4
import Derived.Test.YthkahdjgkcccgaaOp0
namespace Go.TL
set_option linter.unusedSimpArgs false
open Go.Proofs Go.RowKit
attribute [local irreducible] wpOpsT wpT EndT Ex.seq Ex.block W

theorem open_intS : Opens Try.prog Y.sl_int (fun l : List Int => [.sl false 0 l.length 1 (rowT i64C l)]) bndIS :=
  (Opens.sl un_sl_int t3_sz t3_by (by decide) (fun _ => rfl) (.int t3_un)).map (fun l => l) (fun _ => rfl) (fun _ h => h.1)
theorem open_Cmd : Opens Try.prog Y.laws_Cmd cmdC (bndCmdV) :=
  (Opens.st so_laws_Cmd sz_laws_Cmd (.cons t3_sz (.int t3_un) (.cons t3_sz (.int t3_un) (.cons t3_sz (.int t3_un) (.cons t3_sz (.int t3_un) (.cons t9_sz (.str t9_un) .nil (by decide)) (by decide)) (by decide)) (by decide)) (by decide))).map (fun x : Int × Int × Int × Int × ByteArray × Unit => (⟨x.1, x.2.1, x.2.2.1, x.2.2.2.1, x.2.2.2.2.1⟩ : CmdV)) (fun _ => rfl) (fun _ h => h.2.2.2.2.1)
theorem open_CmdS : Opens Try.prog Y.sl_laws_Cmd (fun l : List CmdV => [.sl false 0 l.length 5 (rowT cmdC l)]) bndCmdS :=
  (Opens.sl un_sl_laws_Cmd sz_laws_Cmd by_laws_Cmd (by decide) (fun _ => rfl) open_Cmd).map (fun l => l) (fun _ => rfl) (fun _ h => h)
theorem open_Rel : Opens Try.prog Y.laws_Rel relC (bndRelV) :=
  (Opens.st so_laws_Rel sz_laws_Rel (.cons t3_sz (.int t3_un) (.cons t3_sz (.int t3_un) (.cons t9_sz (.str t9_un) (.cons sz_sl_int open_intS (.cons t3_sz (.int t3_un) .nil (by decide)) (by decide)) (by decide)) (by decide)) (by decide))).map (fun x : Int × Int × ByteArray × List Int × Int × Unit => (⟨x.1, x.2.1, x.2.2.1, x.2.2.2.1, x.2.2.2.2.1⟩ : RelV)) (fun _ => rfl) (fun _ h => ⟨h.2.2.1, h.2.2.2.1⟩)
theorem open_RelS : Opens Try.prog Y.sl_laws_Rel (fun l : List RelV => [.sl false 0 l.length 5 (rowT relC l)]) bndRelS :=
  (Opens.sl un_sl_laws_Rel sz_laws_Rel by_laws_Rel (by decide) (fun _ => rfl) open_Rel).map (fun l => l) (fun _ => rfl) (fun _ h => h)
theorem open_Roll : Opens Try.prog Y.laws_Roll rollC (bndRollV) :=
  (Opens.st so_laws_Roll sz_laws_Roll (.cons t3_sz (.int t3_un) (.cons sz_sl_laws_Rel open_RelS (.cons t3_sz (.int t3_un) (.cons sz_sl_int open_intS .nil (by decide)) (by decide)) (by decide)) (by decide))).map (fun x : Int × List RelV × Int × List Int × Unit => (⟨x.1, x.2.1, x.2.2.1, x.2.2.2.1⟩ : RollV)) (fun _ => rfl) (fun _ h => ⟨h.2.1, h.2.2.2.1⟩)
end Go.TL
