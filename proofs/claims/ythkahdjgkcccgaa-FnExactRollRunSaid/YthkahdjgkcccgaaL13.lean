/- The law of RollRun on trees. No conditions but those that are written. -/
import Derived.Test.YthkahdjgkcccgaaJM10M11
import Derived.Test.YthkahdjgkcccgaaM16
import Derived.Test.YthkahdjgkcccgaaL12
namespace Go.TL
set_option linter.unusedSimpArgs false
open Go.Proofs Go.RowKit
attribute [local irreducible] wpOpsT wpT EndT Ex.seq Ex.block W

theorem heldIntSR (n : Nat) (k : Int) (h0 : 0 ≤ k) (h1 : k + n ≤ 1000000000) : CallsT Try.prog [⟨1, true, rowT i64C (marksI k n)⟩] F.laws_heldIntS [.ref 0 [] 0 n, .v (.int .i64 k)] (.v (.int .i64 (k + n))) [⟨1, true, rowT i64C (marksI k n)⟩] := by
  have hl := marksI_len k n
  refine fnT C.laws_heldIntS ?_
  refine run ?_
  refine r_for n (fun i => [(0, .ref 0 [] 0 n), (1, .v (.int .i64 (k + i))), (5, .v (.int .i64 i))]) (fun _ => [⟨1, true, rowT i64C (marksI k n)⟩]) (fun _ => True) [0] [] trivial Gc.of (fun i hi _ => ?_) (fun _ => ?_)
  · have hv := marksI_nth k hi
    refine run ?_
    exact ⟨[0], [], Gc.of, trivial⟩
  · refine run ?_
    exact r_end [0] []

theorem tot_runV (of : Int) (rels : List RelV) (act : Int) (order : List Int) (l : List CmdV) (ht : totRoll rels order ≤ 1048576) : totRoll (runV ⟨of, rels, act, order⟩ l).1.rels (runV ⟨of, rels, act, order⟩ l).1.order ≤ 1048576 ∧ (runV ⟨of, rels, act, order⟩ l).2.length ≤ 80 := by
  unfold runV
  split
  · rename_i h
    have h1 := tot_run ⟨of, rels, act, order⟩ l
    have h2 := tot_ok h.1
    have h3 := runSt_len ⟨of, rels, act, order⟩ l
    have h4 := h.2
    dsimp only at h1 h2 h3
    exact ⟨by omega, by omega⟩
  · exact ⟨ht, by simp⟩

theorem cost_le {rels : List RelV} {order : List Int} (ht : totRoll rels order ≤ 1048576) : 1 + costRels rels + order.length ≤ 10000000 := by
  have := cost_tot rels
  have h4 := sum_nn totRelV_nn rels
  have h6 : totIS order = order.length := rfl
  unfold totRoll totRelS at ht
  omega

set_option maxHeartbeats 8000000 in
set_option maxHeartbeats 4000000 in
theorem laws_FnExactRollRun (k0 k1 k2 : Nat) (of : Int) (rels : List RelV) (act : Int) (order : List Int) (l : List CmdV) (hpre : bndRoll rels order ∧ bndCmdS l) : CallsT Try.prog [] F.laws_FnExactRollRun [.agg [.v (.int .i64 of), .sl false k0 rels.length 5 (rowT relC rels), .v (.int .i64 act), .sl false k1 order.length 1 (rowT i64C order)], .sl false k2 l.length 5 (rowT cmdC l)] (.v (.bool true)) [] := by
  refine fnT C.laws_FnExactRollRun ?_
  have hb := hpre.1
  have hd := hpre.2
  refine run ?_
  refine r_ifd (fun h => ?_) (fun h => ?_)
  · refine run ?_
    exact r_end [] []
  have hc := cutI_nn h
  rw [hc.1]
  have ht : totRoll rels order ≤ 1048576 := by omega
  have htn := totRoll_nn rels order
  refine run ?_
  refine r_ifd (fun h2 => ?_) (fun h2 => ?_)
  · refine run ?_
    exact r_end [] []
  have hc2 := cutI_nn h2
  have hl : l.length ≤ 1048576 := by
    have h5 := sum_nn totCmdV_nn l
    unfold totCmdS at hc2
    omega
  have hto := toRollO 1 1 of rels act order hb
  have htc := toCmdSO 1 l hd
  have hsp := spec_RollRun 1 1 1 of rels act order l ht hl
  have him := impl_RollRun 1 1 1 of rels act order l ht hl
  have hqt := tot_runV of rels act order l ht
  dsimp only [rollT, rollS, List.cons_append, List.nil_append] at hsp him
  generalize runV ⟨of, rels, act, order⟩ l = q at *
  obtain ⟨hqt, hql⟩ := hqt
  have hbq : bndRoll q.1.rels q.1.order := bnd_tot (by omega)
  have hcr := cost_le ht
  have hcq := cost_le hqt
  have hcn : 0 ≤ costRels rels := sum_nn costRel_nn rels
  have hcnq : 0 ≤ costRels q.1.rels := sum_nn costRel_nn q.1.rels
  have hbi : bndIS q.2 := by unfold bndIS; omega
  refine runC ?_
  refine r_callp true hto ?_
  refine runC ?_
  refine r_callp true htc ?_
  refine runC ?_
  refine r_callp true hsp ?_
  refine runC ?_
  refine r_callp true hto ?_
  refine runC ?_
  refine r_callp true htc ?_
  refine runC ?_
  refine r_callp true him ?_
  have hneg : ¬ (1 + costRels rels + (order.length : Int) + 5 * (l.length : Int) < 0) := by omega
  have hnegq : ¬ (1 + costRels q.1.rels + (q.1.order.length : Int) < 0) := by omega
  have hnegi : ¬ (1 + costRels q.1.rels + (q.1.order.length : Int) + q.2.length < 0) := by omega
  refine run ?_
  refine r_calln [8, 9] (markRollR of act rels order 1 (by omega) (by omega)) ?_
  refine runC ?_
  refine r_calln [11] (markCmdS1 l (1 + costRels rels + order.length) (by omega) (by omega)) ?_
  refine r_do ?_
  repeat (first | refine r_seq ?_ | refine r_region ?_ | refine r_ops ?_ | refine x_seq_n ?_)
  refine r_do ?_
  refine r_do ?_
  rw [decide_eq_false hneg]
  refine run ?_
  refine r_calln [12, 13] (markRollR q.1.of q.1.act q.1.rels q.1.order 1 (by omega) (by omega)) ?_
  refine runC ?_
  refine r_calln [14] (markIntS1 q.2 (1 + costRels q.1.rels + q.1.order.length) (by omega) (by omega)) ?_
  refine runC ?_
  refine r_calln [12, 13] (heldRollR q.1.of q.1.act q.1.rels q.1.order 1 (by omega) (by omega)) ?_
  refine runC ?_
  refine r_calln [14] (heldIntSR q.2.length (1 + costRels q.1.rels + q.1.order.length) (by omega) (by omega)) ?_
  refine runC ?_
  refine r_callp true hto ?_
  refine runC ?_
  refine r_callp true htc ?_
  refine runC ?_
  refine r_callp true him ?_
  refine run ?_
  refine r_calln [12, 13] (heldRollR q.1.of q.1.act q.1.rels q.1.order 1 (by omega) (by omega)) ?_
  refine runC ?_
  refine r_calln [14] (heldIntSR q.2.length (1 + costRels q.1.rels + q.1.order.length) (by omega) (by omega)) ?_
  refine run ?_
  exact r_end [] []
instance (k0 k1 k2 : Nat) (of : Int) (rels : List RelV) (act : Int) (order : List Int) (l : List CmdV) : Con Try.prog F.laws_FnExactRollRun [.agg [.v (.int .i64 of), .sl false k0 rels.length 5 (rowT relC rels), .v (.int .i64 act), .sl false k1 order.length 1 (rowT i64C order)], .sl false k2 l.length 5 (rowT cmdC l)] (bndRoll rels order ∧ bndCmdS l) (.v (.bool true)) [] := ⟨fun h => laws_FnExactRollRun k0 k1 k2 of rels act order l h⟩

end Go.TL
