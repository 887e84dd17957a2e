/- The table of a zone, both sides. No conditions but those that are written. -/
import Derived.Test.YtkecbkljfpebhaaJX12X13
namespace Go.TL
set_option linter.unusedSimpArgs false
open Go.Proofs Go.RowKit
attribute [local irreducible] wpOpsT wpT EndT Ex.seq Ex.block W

theorem zt_def {rules : List RuleV} {zones : List ZoneV} {links : List LinkV} {n : Int} (h : zonO rules zones links n) : ztV rules zones links n = (match tabV (zonV rules zones links n).off (walls rules (zonV rules zones links n).rule) with
    | some o => some ((zonV rules zones links n).off, o)
    | none => none) := by
  unfold ztV
  rw [if_pos h]
  generalize tabV (zonV rules zones links n).off (walls rules (zonV rules zones links n).rule) = q
  cases q <;> rfl
theorem zt_is0 {rules : List RuleV} {zones : List ZoneV} {links : List LinkV} {n : Int} (h : ztV rules zones links n = none) : ztF rules zones links n = 0 ∧ ztS rules zones links n = [] ∧ decide (ztO rules zones links n) = false :=
  ⟨by unfold ztF; rw [h]; rfl, by unfold ztS; rw [h]; rfl, decide_eq_false (by unfold ztO; rw [h]; decide)⟩
theorem zt_no {rules : List RuleV} {zones : List ZoneV} {links : List LinkV} {n : Int} (h : ¬ zonO rules zones links n) : ztF rules zones links n = 0 ∧ ztS rules zones links n = [] ∧ decide (ztO rules zones links n) = false := zt_is0 (if_neg h)
theorem zt_none {rules : List RuleV} {zones : List ZoneV} {links : List LinkV} {n : Int} (h : zonO rules zones links n) (ht : tabV (zonV rules zones links n).off (walls rules (zonV rules zones links n).rule) = none) : ztF rules zones links n = 0 ∧ ztS rules zones links n = [] ∧ decide (ztO rules zones links n) = false :=
  zt_is0 (by rw [zt_def h, ht])
theorem zt_some {rules : List RuleV} {zones : List ZoneV} {links : List LinkV} {n : Int} {o : List ShiftV} (h : zonO rules zones links n) (ht : tabV (zonV rules zones links n).off (walls rules (zonV rules zones links n).rule) = some o) : ztF rules zones links n = (zonV rules zones links n).off ∧ ztS rules zones links n = o ∧ decide (ztO rules zones links n) = true := by
  have e : ztV rules zones links n = some ((zonV rules zones links n).off, o) := by rw [zt_def h, ht]
  exact ⟨by unfold ztF; rw [e]; rfl, by unfold ztS; rw [e]; rfl, decide_eq_true (by unfold ztO; rw [e]; rfl)⟩
theorem tabV_none {z : Int} {w : List ShiftV} (h : tabL z w true 0 0 [] = none) : tabV z w = none := by rw [tabV, h]
theorem tabV_some {z : Int} {w o : List ShiftV} (h : tabL z w true 0 0 [] = some o) : tabV z w = if tableP z o then some o else none := by rw [tabV, h]
theorem tabL_t (z : Int) (w : List ShiftV) (s t t2 : Int) (o : List ShiftV) : tabL z w true s t o = tabL z w true s t2 o := by
  cases w with
  | nil => rfl
  | cons x w => simp only [tabL, Bool.true_eq_false, false_and, if_false]
theorem walls_0 {rules : List RuleV} (h : ∀ i, i < rules.length → ruleP (nth rules (i : Nat))) : walls rules 0 = [] := by
  rw [walls, setsN_none fun r hr => ?_]
  · rfl
  · have := (rules_mem h r hr).1.1
    omega
theorem tableP_nil {z : Int} (h : -900 ≤ z ∧ z ≤ 900) : tableP z [] := ⟨by omega, by simp, fun i hi => absurd hi (Nat.not_lt_zero _)⟩
/-- What a zone that is there is like. -/
theorem zon_ok {rules : List RuleV} {zones : List ZoneV} {links : List LinkV} {n : Int} (h : zonO rules zones links n) : zoneP (zonV rules zones links n) := by
  have hb := findZo_b zones (zname links n)
  have := (h.1.2.2.1 (findZo zones (zname links n)).toNat (by have := h.2; omega)).1
  rw [Int.toNat_of_nonneg h.2] at this
  rw [zonV_yes h]
  exact this

/-- The roots while a table is made. -/
def ztG (b : Root) (z : ZoneV) : List ShiftV → Store
  | [] => [b, ⟨0, true, [.v (.int .i64 0), .v (.slice none 0 0)]⟩, ⟨0, true, [.v (.int .i64 z.name), .v (.int .i64 z.off), .v (.int .i64 z.rule)]⟩, ⟨0, true, [.v (.int .i64 z.off), .v (.slice none 0 0)]⟩]
  | x :: o => [b, ⟨0, true, [.v (.int .i64 0), .v (.slice none 0 0)]⟩, ⟨0, true, [.v (.int .i64 z.name), .v (.int .i64 z.off), .v (.int .i64 z.rule)]⟩, ⟨0, true, [.v (.int .i64 z.off), .ref 4 [] 0 (x :: o).length]⟩, ⟨2, true, rowT shiftC (x :: o)⟩]
theorem take_rowZ (y : ShiftV) (o : List ShiftV) : (rowT shiftC (y :: o)).take ((o.length + 1) * 2) = rowT shiftC (y :: o) :=
  List.take_of_length_le (by rw [len_row, List.length_cons]; exact Nat.le_refl _)
attribute [local go_sem] take_rowZ

end Go.TL
