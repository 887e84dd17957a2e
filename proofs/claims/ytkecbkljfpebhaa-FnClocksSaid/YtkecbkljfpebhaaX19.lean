/- What the table of a zone is like. No conditions but those that are written. -/
import Derived.Test.YtkecbkljfpebhaaX14
namespace Go.TL
set_option linter.unusedSimpArgs false
open Go.Proofs Go.RowKit
attribute [local irreducible] wpOpsT wpT EndT Ex.seq Ex.block W

theorem zt_yes {rules : List RuleV} {zones : List ZoneV} {links : List LinkV} {n : Int} (h : ztO rules zones links n) : zonO rules zones links n ∧ tabV (zonV rules zones links n).off (walls rules (zonV rules zones links n).rule) = some (ztS rules zones links n) ∧ ztF rules zones links n = (zonV rules zones links n).off := by
  by_cases hz : zonO rules zones links n
  · cases ht : tabV (zonV rules zones links n).off (walls rules (zonV rules zones links n).rule) with
    | none => exact absurd h (of_decide_eq_false (zt_none hz ht).2.2)
    | some o =>
      have := zt_some hz ht
      exact ⟨hz, by rw [this.2.1], this.1⟩
  · exact absurd h (of_decide_eq_false (zt_no hz).2.2)
theorem zt_nope {rules : List RuleV} {zones : List ZoneV} {links : List LinkV} {n : Int} (h : ¬ ztO rules zones links n) : ztF rules zones links n = 0 ∧ ztS rules zones links n = [] := by
  by_cases hz : zonO rules zones links n
  · cases ht : tabV (zonV rules zones links n).off (walls rules (zonV rules zones links n).rule) with
    | none => exact ⟨(zt_none hz ht).1, (zt_none hz ht).2.1⟩
    | some o => exact absurd (of_decide_eq_true (zt_some hz ht).2.2) h
  · exact ⟨(zt_no hz).1, (zt_no hz).2.1⟩
theorem tabV_p {z : Int} {w o : List ShiftV} (h : tabV z w = some o) : tableP z o ∧ tabL z w true 0 0 [] = some o := by
  unfold tabV at h
  cases ht : tabL z w true 0 0 [] with
  | none => rw [ht] at h; cases h
  | some q =>
    rw [ht] at h
    dsimp only at h
    split at h
    · rename_i hp
      cases h
      exact ⟨hp, rfl⟩
    · cases h
theorem zt_table {rules : List RuleV} {zones : List ZoneV} {links : List LinkV} {n : Int} (h : ztO rules zones links n) : tableP (ztF rules zones links n) (ztS rules zones links n) := by
  have := zt_yes h
  rw [this.2.2]
  exact (tabV_p this.2.1).1
theorem zt_300 (rules : List RuleV) (zones : List ZoneV) (links : List LinkV) (n : Int) : (ztS rules zones links n).length ≤ 300 := by
  by_cases h : ztO rules zones links n
  · exact (zt_table h).2.1
  · rw [(zt_nope h).2]; exact Nat.zero_le _

end Go.TL
