/- The law of HeldLoad on trees. No conditions but those that are written. -/
import Derived.Test.YtneiifghegdfgaaJ10
import Derived.Test.YtneiifghegdfgaaL14
namespace Go.TL
set_option linter.unusedSimpArgs false
open Go.Proofs Go.RowKit
attribute [local irreducible] wpOpsT wpT EndT Ex.seq Ex.block W

theorem toFileSO (k : Nat) (l : List FileV) (hpre : bndFileS l) : CallsT Try.prog [] F.laws_toFileS [.sl false k l.length 3 (rowT fileC l)] (.ref 0 [] 0 l.length) [⟨3, true, rowT fileC l⟩] := by
  obtain ⟨hb1, hb2⟩ := hpre
  refine fnT C.laws_toFileS ?_
  refine run ?_
  rw [List.length_replicate]
  refine r_for l.length (fun i => [(0, .sl false k l.length 3 (rowT fileC l)), (3, .ref 0 [] 0 l.length), (4, .v (.int .i64 i))]) (fun i => [⟨3, true, rowT fileC (l.take i ++ (List.replicate l.length default).drop i)⟩]) (fun _ => True) [0] [] trivial Gc.of (fun i hi _ => ?_) (fun _ => ?_)
  · have hs1 : bndFile (nth l i).safe (nth l i).late := hb2 _ (nth_mem hi)
    refine run ?_
    refine r_sto (enc := fileC) _ i (nth l i) ?_
    rw [set_mix hi (by simp)]
    refine run ?_
    exact ⟨[0], [], Gc.of, trivial⟩
  · rw [List.take_length, List.drop_of_length_le (by simp), List.append_nil]
    refine run ?_
    exact r_end [0] []

theorem toDiskO (k : Nat) (room : Int) (l : List FileV) (hpre : bndFileS l) : CallsT Try.prog [] F.laws_toDisk [.agg [.v (.int .i64 room), .sl false k l.length 3 (rowT fileC l)]] (.agg [.v (.int .i64 room), .ref 0 [] 0 l.length]) [⟨3, true, rowT fileC l⟩] := by
  have h1 := toFileSO 1 l hpre
  refine fnT C.laws_toDisk ?_
  refine runC ?_
  refine r_callp true h1 ?_
  refine run ?_
  exact r_end [3] []

/-- Files that are marked. -/
def mkF (k : Int) (i : Nat) : FileV := ⟨k + 3 * i, mT (k + 3 * i + 1), mT (k + 3 * i + 1 + 1)⟩
def mkFS (k : Int) (n : Nat) : List FileV := (List.range n).map (mkF k)
theorem mkFS_len (k : Int) (n : Nat) : (mkFS k n).length = n := by rw [mkFS, List.length_map, List.length_range]
theorem mkFS_s (k : Int) (n : Nat) : mkFS k (n + 1) = mkFS k n ++ [mkF k n] := by rw [mkFS, List.range_succ, List.map_append]; rfl

theorem markFileS1 (l : List FileV) (k : Int) (hk : 0 < k) (hk2 : k + 3 * l.length ≤ 100000000) : CallsT Try.prog [⟨3, true, rowT fileC l⟩] F.laws_markFileS [.ref 0 [] 0 l.length, .v (.int .i64 k)] (.v (.int .i64 (k + 3 * l.length))) [⟨3, true, rowT fileC (mkFS k l.length)⟩] := by
  refine fnT C.laws_markFileS ?_
  refine run ?_
  refine r_for l.length (fun i => [(0, .ref 0 [] 0 l.length), (1, .v (.int .i64 (k + 3 * i))), (5, .v (.int .i64 i))]) (fun i => [⟨3, true, rowT fileC (mkFS k i) ++ rowT fileC (l.drop i)⟩]) (fun _ => True) [0] [] trivial (Gc.of (hf := ?_)) (fun i hi _ => ?_) (fun _ => ?_)
  · simp only [Int.cast_ofNat_Int, Int.mul_zero, Int.add_zero]
    (simp only [go_sem, ↓reduceIte, Nat.reduceEqDiff, Nat.reduceMul, Nat.reduceAdd, Nat.reduceSub, Nat.reduceLT, Nat.reduceGT, Nat.reduceLeDiff, Nat.reduceBEq, Int.reduceLT, Int.reduceLE, Int.reduceNe, Int.reduceEq, Int.reduceToNat, Int.reduceAdd, Int.reduceSub, Int.reduceMul, Int.reduceNeg, Nat.reducePow, Int.reducePow, Nat.reduceSubDiff, decide_true, decide_false, reduceCtorEq, or_self, or_false, false_or, or_true, true_or, if_false, gt_iff_lt, ge_iff_le, ne_eq, not_true_eq_false, not_false_eq_true, and_self, beq_self_eq_true, Bool.false_eq_true]; try (repeat (first | exact True.intro | exact Wk.refl _ | exact Wk.nil _ _ | exact Wk.dead _ | exact Wk.bT (by assumption) | exact Wk.bF (by assumption) | exact Wk.eqI (by omega) | exact WkS.refl _ | exact Wks.same _ | exact Wks.nil | exact WkS.nil | refine And.intro ?_ ?_ | refine Wk.aggs ?_ | refine Wk.tups ?_ | refine Wks.cons ?_ ?_ | refine WkS.cons (by first | exact fun _ => rfl | exact fun h => absurd h Bool.false_ne_true) ?_ ?_ ?_ | assumption | exact (fun h => h) | exact (fun h => absurd h Bool.false_ne_true) | intro _)))
  · have hml := mkFS_len k i
    rw [List.drop_eq_getElem_cons hi, rowT_cons, ← nth_nat hi]
    dsimp only [fileC, List.cons_append, List.nil_append]
    refine run ?_
    refine r_stw ?_
    refine run ?_
    refine r_stw ?_
    refine run ?_
    refine r_stw ?_
    refine run ?_
    have hend : rowT fileC (mkFS k (i + 1)) ++ rowT fileC (l.drop (i + 1)) = rowT fileC (mkFS k i) ++ .v (.int .i64 (k + 3 * i)) :: .v (.string (mT (k + 3 * i + 1))) :: .v (.string (mT (k + 3 * i + 1 + 1))) :: rowT fileC (l.drop (i + 1)) := by
      rw [mkFS_s, rowT_append, List.append_assoc]; rfl
    rw [hend]
    exact ⟨[0], [], Gc.of, trivial⟩
  · rw [List.drop_length, show rowT fileC [] = [] from rfl, List.append_nil]
    refine run ?_
    exact r_end [0] []

theorem markDiskO (room : Int) (l : List FileV) (k : Int) (hk : 0 < k) (hk2 : k + 3 * l.length ≤ 100000000) : CallsT Try.prog [⟨3, true, rowT fileC l⟩] F.laws_markDisk [.agg [.v (.int .i64 room), .ref 0 [] 0 l.length], .v (.int .i64 k)] (.v (.int .i64 (k + 3 * l.length))) [⟨3, true, rowT fileC (mkFS k l.length)⟩] := by
  refine fnT C.laws_markDisk ?_
  refine runC ?_
  refine r_calln [0] (markFileS1 l k hk hk2) ?_
  refine run ?_
  exact r_end [0] []

set_option linter.unusedSimpArgs false in
set_option maxHeartbeats 16000000 in
set_option maxHeartbeats 4000000 in
theorem laws_FnExactHeldLoad (k : Nat) (room : Int) (l : List FileV) (hpre : bndDisk l) : CallsT Try.prog [] F.laws_FnExactHeldLoad [.agg [.v (.int .i64 room), .sl false k l.length 3 (rowT fileC l)]] (.v (.bool true)) [] := by
  refine fnT C.laws_FnExactHeldLoad ?_
  have hb : bndDisk l := hpre
  refine run ?_
  refine r_ifd (fun h => ?_) (fun h => ?_)
  · refine run ?_
    exact r_end [] []
  have hc := cutI_nn h
  have hb2 : bndFileS l := hb
  have ht : totFileS l ≤ 1048576 := by have := hc.2; unfold totDisk at this; omega
  have hll : (l.length : Int) ≤ 1048576 := by have := sum_nn totFileV_nn l; unfold totFileS at ht; omega
  have hsp := spec_HeldLoad 1 room l hb2 ht
  have him := impl_HeldLoad 1 room l hb2 ht
  have hH : heldsP (hload room l) := hlL_ok _ heldsP_nil
  have hto := toDiskO 1 room l hb2
  generalize hload room l = H at *
  obtain ⟨hHb, hHt⟩ := held_small hH
  have hcl := costHS_tot H
  have hcn : 0 ≤ costHS H := sum_nn costH_nn _
  have hneg : ¬ (1 + 3 * (l.length : Int) < 0) := by omega
  refine run ?_
  refine r_callp true hsp ?_
  refine runC ?_
  refine r_callp true hto ?_
  refine runC ?_
  refine r_callp true him ?_
  refine run ?_
  refine r_calln [2] (markDiskO room l 1 (by omega) (by omega)) ?_
  refine r_do ?_
  repeat (first | refine r_seq ?_ | refine r_region ?_ | refine r_ops ?_ | refine x_seq_n ?_)
  refine r_do ?_
  refine r_do ?_
  rw [decide_eq_false hneg]
  refine run ?_
  refine r_calln [4] (markHeldS1 H 1 (by omega) (by omega)) ?_
  refine runC ?_
  refine r_calln [4] (heldHeldSR H 1 (by omega) (by omega)) ?_
  refine run ?_
  refine r_callp true him ?_
  refine run ?_
  refine r_calln [4] (heldHeldSR H 1 (by omega) (by omega)) ?_
  refine run ?_
  exact r_end [] []
instance (k : Nat) (room : Int) (l : List FileV) : Con Try.prog F.laws_FnExactHeldLoad [.agg [.v (.int .i64 room), .sl false k l.length 3 (rowT fileC l)]] (bndDisk l) (.v (.bool true)) [] := ⟨fun h => laws_FnExactHeldLoad k room l h⟩

end Go.TL
