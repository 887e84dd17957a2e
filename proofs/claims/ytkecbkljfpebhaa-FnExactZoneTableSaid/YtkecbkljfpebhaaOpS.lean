/- Sources are opened. No conditions but those that are written. -/
import Derived.Test.YtkecbkljfpebhaaE5
import Derived.Test.YtkecbkljfpebhaaOp0
namespace Go.TL
set_option linter.unusedSimpArgs false
open Go.Proofs Go.RowKit
attribute [local irreducible] wpOpsT wpT EndT Ex.seq Ex.block W

theorem open_On : Opens Try.prog Y.laws_On (fun x : Int × Int × Int × Unit => [.v (.int .i64 x.1), .v (.int .i64 x.2.1), .v (.int .i64 x.2.2.1)]) (fun _ => True) :=
  (Opens.st so_laws_On sz_laws_On (.cons t3_sz (.int t3_un) (.cons t3_sz (.int t3_un) (.cons t3_sz (.int t3_un) .nil (by decide)) (by decide)) (by decide))).map (fun x : Int × Int × Int × Unit => x) (fun _ => rfl) (fun _ _ => trivial)
theorem open_Rule : Opens Try.prog Y.laws_Rule ruleC (fun _ => True) :=
  (Opens.st so_laws_Rule sz_laws_Rule (.cons t3_sz (.int t3_un) (.cons t3_sz (.int t3_un) (.cons t3_sz (.int t3_un) (.cons t3_sz (.int t3_un) (.cons sz_laws_On open_On (.cons t3_sz (.int t3_un) (.cons t3_sz (.int t3_un) .nil (by decide)) (by decide)) (by decide)) (by decide)) (by decide)) (by decide)) (by decide))).map (fun x : Int × Int × Int × Int × (Int × Int × Int × Unit) × Int × Int × Unit => (⟨x.1, x.2.1, x.2.2.1, x.2.2.2.1, x.2.2.2.2.1.1, x.2.2.2.2.1.2.1, x.2.2.2.2.1.2.2.1, x.2.2.2.2.2.1, x.2.2.2.2.2.2.1⟩ : RuleV)) (fun _ => rfl) (fun _ _ => trivial)
theorem open_RuleS : Opens Try.prog Y.sl_laws_Rule (fun l : List RuleV => [.sl false 0 l.length 9 (rowT ruleC l)]) (fun l => l.length * 72 ≤ 140737488351232) :=
  (Opens.sl un_sl_laws_Rule sz_laws_Rule by_laws_Rule (by decide) (fun _ => rfl) open_Rule).map (fun l => l) (fun _ => rfl) (fun _ h => h.1)
theorem open_Zone : Opens Try.prog Y.laws_Zone zoneC (fun _ => True) :=
  (Opens.st so_laws_Zone sz_laws_Zone (.cons t3_sz (.int t3_un) (.cons t3_sz (.int t3_un) (.cons t3_sz (.int t3_un) .nil (by decide)) (by decide)) (by decide))).map (fun x : Int × Int × Int × Unit => (⟨x.1, x.2.1, x.2.2.1⟩ : ZoneV)) (fun _ => rfl) (fun _ _ => trivial)
theorem open_ZoneS : Opens Try.prog Y.sl_laws_Zone (fun l : List ZoneV => [.sl false 0 l.length 3 (rowT zoneC l)]) (fun l => l.length * 24 ≤ 140737488351232) :=
  (Opens.sl un_sl_laws_Zone sz_laws_Zone by_laws_Zone (by decide) (fun _ => rfl) open_Zone).map (fun l => l) (fun _ => rfl) (fun _ h => h.1)
theorem open_Link : Opens Try.prog Y.laws_Link linkC (fun _ => True) :=
  (Opens.st so_laws_Link sz_laws_Link (.cons t3_sz (.int t3_un) (.cons t3_sz (.int t3_un) .nil (by decide)) (by decide))).map (fun x : Int × Int × Unit => (⟨x.1, x.2.1⟩ : LinkV)) (fun _ => rfl) (fun _ _ => trivial)
theorem open_LinkS : Opens Try.prog Y.sl_laws_Link (fun l : List LinkV => [.sl false 0 l.length 2 (rowT linkC l)]) (fun l => l.length * 16 ≤ 140737488351232) :=
  (Opens.sl un_sl_laws_Link sz_laws_Link by_laws_Link (by decide) (fun _ => rfl) open_Link).map (fun l => l) (fun _ => rfl) (fun _ h => h.1)
structure SrcV where
  rules : List RuleV
  zones : List ZoneV
  links : List LinkV
def srcC (x : SrcV) : List T := [.sl false 0 x.rules.length 9 (rowT ruleC x.rules), .sl false 0 x.zones.length 3 (rowT zoneC x.zones), .sl false 0 x.links.length 2 (rowT linkC x.links)]
theorem open_Source : Opens Try.prog Y.laws_Source srcC (fun x => x.rules.length * 72 ≤ 140737488351232 ∧ x.zones.length * 24 ≤ 140737488351232 ∧ x.links.length * 16 ≤ 140737488351232) :=
  (Opens.st so_laws_Source sz_laws_Source (.cons sz_sl_laws_Rule open_RuleS (.cons sz_sl_laws_Zone open_ZoneS (.cons sz_sl_laws_Link open_LinkS .nil (by decide)) (by decide)) (by decide))).map (fun x : List RuleV × List ZoneV × List LinkV × Unit => (⟨x.1, x.2.1, x.2.2.1⟩ : SrcV)) (fun _ => rfl) (fun _ h => ⟨h.1, h.2.1, h.2.2.1⟩)
end Go.TL
