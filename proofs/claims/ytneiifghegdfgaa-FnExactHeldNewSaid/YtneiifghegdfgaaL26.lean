/- The law of HeldNew on trees. No conditions but those that are written. -/
import Derived.Test.YtneiifghegdfgaaL25
import Derived.Test.YtneiifghegdfgaaL14
namespace Go.TL
set_option linter.unusedSimpArgs false
open Go.Proofs Go.RowKit
attribute [local irreducible] wpOpsT wpT EndT Ex.seq Ex.block W

set_option linter.unusedSimpArgs false in
set_option maxHeartbeats 16000000 in
set_option maxHeartbeats 4000000 in
theorem laws_FnExactHeldNew (k : Nat) (l : List HeldV) (r sz : Int) (d : ByteArray) (hpre : bndHS l ∧ d.size ≤ 140737488355328) : CallsT Try.prog [] F.laws_FnExactHeldNew [.sl false k l.length 4 (rowT heldC l), .v (.int .i64 r), .v (.int .i64 sz), .v (.string d)] (.v (.bool true)) [] := by
  refine fnT C.laws_FnExactHeldNew ?_
  obtain ⟨hb, hs⟩ := hpre
  refine run ?_
  refine r_ifd (fun h0 => ?_) (fun h0 => ?_)
  · refine run ?_
    exact r_end [] []
  refine run ?_
  refine r_ifd (fun h => ?_) (fun h => ?_)
  · refine run ?_
    exact r_end [] []
  have hc := cutI_nn h
  rw [hc.1]
  have ht : totHS l ≤ 1048576 := by omega
  have hcl := costHS_tot l
  have hcn : 0 ≤ costHS l := sum_nn costH_nn l
  have hto := toHeldSO 1 l hb
  have hneg : ¬ (1 + costHS l < 0) := by omega
  have hsp := spec_HeldNewO l r sz d hb ht
  by_cases hok : heldsP l
  · have him := impl_HeldNewR l r sz d hb ht hok
    have hbq := bnd_new (r := r) (sz := sz) (d := d) hb
    have hcq := cost_new l r sz d
    have hcqn : 0 ≤ costHS (newH l r sz d).1 := sum_nn costH_nn _
    generalize newH l r sz d = q at *
    obtain ⟨q1, q2⟩ := q
    have hq2 : q2 = decide (q2 = true) := by cases q2 <;> rfl
    dsimp only at hsp him hbq hcq hcqn
    rw [hq2] at hsp him
    have hnegq : ¬ (1 + costHS q1 < 0) := by omega
    refine runC ?_
    refine r_callp true hto ?_
    refine runC ?_
    refine r_callp true hsp ?_
    refine runC ?_
    refine r_callp true hto ?_
    refine runC ?_
    refine r_callp true him ?_
    refine run ?_
    refine r_calln [2] (markHeldS1 l 1 (by omega) (by omega)) ?_
    refine r_do ?_
    repeat (first | refine r_seq ?_ | refine r_region ?_ | refine r_ops ?_ | refine x_seq_n ?_)
    refine r_do ?_
    refine r_do ?_
    rw [decide_eq_false hneg]
    refine run ?_
    refine r_calln [3] (markHeldS1 q1 1 (by omega) (by omega)) ?_
    refine runC ?_
    refine r_calln [3] (heldHeldSR q1 1 (by omega) (by omega)) ?_
    refine runC ?_
    refine r_callp true hto ?_
    refine runC ?_
    refine r_callp true him ?_
    refine run ?_
    refine r_calln [3] (heldHeldSR q1 1 (by omega) (by omega)) ?_
    refine run ?_
    exact r_end [] []
  · have him := impl_HeldNewB l r sz d hb hok
    rw [newH_bad hok] at hsp
    obtain ⟨z, hz⟩ : ∃ z : Bool, false = decide (z = true) := ⟨false, rfl⟩
    dsimp only at hsp him
    have hz2 : (Value.bool false) = Value.bool (decide (z = true)) := congrArg _ hz
    rw [hz2] at hsp him
    refine runC ?_
    refine r_callp true hto ?_
    refine runC ?_
    refine r_callp true hsp ?_
    refine runC ?_
    refine r_callp true hto ?_
    refine runC ?_
    refine r_callp true him ?_
    refine runC ?_
    refine r_callp true eqHeldS0 ?_ (ha := by rfl)
    refine run ?_
    refine r_calln [2] (markHeldS1 l 1 (by omega) (by omega)) ?_
    refine r_do ?_
    repeat (first | refine r_seq ?_ | refine r_region ?_ | refine r_ops ?_ | refine x_seq_n ?_)
    refine r_do ?_
    refine r_do ?_
    rw [decide_eq_false hneg]
    refine runC ?_
    refine r_callp true eqHeldS0 ?_ (ha := by rfl)
    refine runC ?_
    refine r_callp true markHeldS0 ?_ (ha := by rfl)
    refine runC ?_
    refine r_callp true heldHeldS0 ?_ (ha := by rfl)
    refine runC ?_
    refine r_callp true hto ?_
    refine runC ?_
    refine r_callp true him ?_
    refine runC ?_
    refine r_callp true eqHeldS0 ?_ (ha := by rfl)
    refine runC ?_
    refine r_callp true heldHeldS0 ?_ (ha := by rfl)
    refine run ?_
    exact r_end [] []
instance (k : Nat) (l : List HeldV) (r sz : Int) (d : ByteArray) : Con Try.prog F.laws_FnExactHeldNew [.sl false k l.length 4 (rowT heldC l), .v (.int .i64 r), .v (.int .i64 sz), .v (.string d)] (bndHS l ∧ d.size ≤ 140737488355328) (.v (.bool true)) [] := ⟨fun h => laws_FnExactHeldNew k l r sz d h⟩

end Go.TL
