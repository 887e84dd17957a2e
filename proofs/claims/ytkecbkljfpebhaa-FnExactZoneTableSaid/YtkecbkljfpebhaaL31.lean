/- The law of ZoneTable on trees. No conditions but those that are written. -/
import Derived.Test.YtkecbkljfpebhaaE5
import Derived.Test.YtkecbkljfpebhaaX15
import Derived.Test.YtkecbkljfpebhaaX19
import Derived.Test.YtkecbkljfpebhaaJX17X18
namespace Go.TL
set_option linter.unusedSimpArgs false
open Go.Proofs Go.RowKit
attribute [local irreducible] wpOpsT wpT EndT Ex.seq Ex.block W

set_option linter.unusedSimpArgs false in
set_option maxHeartbeats 16000000 in
set_option maxHeartbeats 4000000 in
theorem laws_FnExactZoneTable (k0 k1 k2 : Nat) (rules : List RuleV) (zones : List ZoneV) (links : List LinkV) (n : Int) (hpre : rules.length * 72 ≤ 140737488351232 ∧ zones.length * 24 ≤ 140737488351232 ∧ links.length * 16 ≤ 140737488351232) : CallsT Try.prog [] F.laws_FnExactZoneTable [.agg [.sl false k0 rules.length 9 (rowT ruleC rules), .sl false k1 zones.length 3 (rowT zoneC zones), .sl false k2 links.length 2 (rowT linkC links)], .v (.int .i64 n)] (.v (.bool true)) [] := by
  refine fnT C.laws_FnExactZoneTable ?_
  have hok := hpre
  obtain ⟨b0, b1, b2⟩ := hpre
  refine run ?_
  refine r_ifd (fun h => ?_) (fun h => ?_)
  · refine run ?_
    exact r_end [] []
  have hc := (cutI_nn h).2
  have hr : rules.length ≤ 1048576 := by omega
  have hz : zones.length ≤ 1048576 := by omega
  have hl : links.length ≤ 1048576 := by omega
  have hto := toSourceO 1 1 1 rules zones links hok
  have hms := markSource1 rules zones links 1 (by omega) (by omega)
  have hneg : ¬ (1 + 9 * (rules.length : Int) + 3 * zones.length + 2 * links.length < 0) := by omega
  have hsp := spec_ZoneTableZ 1 1 1 rules zones links n ⟨hr, hz, hl⟩
  have hwl := zt_300 rules zones links n
  by_cases hne : ztS rules zones links n = []
  · have him := impl_ZoneTableZ 1 1 1 rules zones links n ⟨hr, hz, hl⟩
    rw [hne] at hsp him
    simp only [List.length_nil, rowT_nil] at hsp him
    generalize ztF rules zones links n = f at *
    refine run ?_
    refine r_callp true hsp ?_
    refine runC ?_
    refine r_callp true hto ?_
    refine runC ?_
    refine r_callp true him ?_
    refine runC ?_
    refine r_callp true (eqTable0 f 1 1) ?_
    refine run ?_
    refine r_calln [2, 3, 4] hms ?_
    refine r_do ?_
    repeat (first | refine r_seq ?_ | refine r_region ?_ | refine r_ops ?_ | refine x_seq_n ?_)
    refine r_do ?_
    refine r_do ?_
    rw [decide_eq_false hneg]
    refine runC ?_
    refine r_callp true (eqTable0 f 1 1) ?_
    refine runC ?_
    refine r_callp true (markTable0 f 1 1) ?_
    refine runC ?_
    refine r_callp true (heldTable0 f 1 1 (by omega)) ?_
    refine run ?_
    refine r_callp true him ?_
    refine runC ?_
    refine r_callp true (eqTable0 f 1 1) ?_
    refine runC ?_
    refine r_callp true (heldTable0 f 1 1 (by omega)) ?_
    refine run ?_
    exact r_end [] []
  · have him := impl_ZoneTableO 1 1 1 rules zones links n ⟨hr, hz, hl⟩ hne
    generalize ztS rules zones links n = S at *
    generalize ztF rules zones links n = f at *
    have hmt := markTable1 f S 1 (by omega) (by omega)
    have hmk := marksSh_len 1 S.length
    have hh := laws_heldTable 1 f 1 S.length ⟨by omega, by omega⟩
    generalize marksSh 1 S.length = M at *
    rw [← hmk] at hh
    have hq : ¬ (1 + 2 * (S.length : Int) < 0) := by omega
    refine run ?_
    refine r_callp true hsp ?_
    refine runC ?_
    refine r_callp true hto ?_
    refine runC ?_
    refine r_callp true him ?_
    refine run ?_
    refine r_calln [2, 3, 4] hms ?_
    refine r_do ?_
    repeat (first | refine r_seq ?_ | refine r_region ?_ | refine r_ops ?_ | refine x_seq_n ?_)
    refine r_do ?_
    refine r_do ?_
    rw [decide_eq_false hneg]
    refine run ?_
    refine r_calln [6] hmt ?_
    rw [← hmk]
    refine runC ?_
    refine r_callp true hh ?_
    rw [hmk]
    refine run ?_
    refine r_callp true him ?_
    refine run ?_
    rw [← hmk]
    refine r_callp true hh ?_
    rw [hmk]
    refine run ?_
    exact r_end [] []
instance (k0 k1 k2 : Nat) (rules : List RuleV) (zones : List ZoneV) (links : List LinkV) (n : Int) : Con Try.prog F.laws_FnExactZoneTable [.agg [.sl false k0 rules.length 9 (rowT ruleC rules), .sl false k1 zones.length 3 (rowT zoneC zones), .sl false k2 links.length 2 (rowT linkC links)], .v (.int .i64 n)] (rules.length * 72 ≤ 140737488351232 ∧ zones.length * 24 ≤ 140737488351232 ∧ links.length * 16 ≤ 140737488351232) (.v (.bool true)) [] := ⟨fun h => laws_FnExactZoneTable k0 k1 k2 rules zones links n h⟩

end Go.TL
