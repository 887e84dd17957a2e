/- The law of RollApply on trees. No conditions but those that are written. -/
import Derived.Test.YthkahdjgkcccgaaJM10M11
import Derived.Test.YthkahdjgkcccgaaM1
import Derived.Test.YthkahdjgkcccgaaE2
import Derived.Test.YthkahdjgkcccgaaTHead
namespace Go.TL
set_option linter.unusedSimpArgs false
open Go.Proofs Go.RowKit
attribute [local irreducible] wpOpsT wpT EndT Ex.seq Ex.block W

theorem tot_q (of : Int) (rels : List RelV) (act : Int) (order : List Int) (k r n z : Int) (d : ByteArray) : totRoll (applyP of rels act order k r n z d).1.rels (applyP of rels act order k r n z d).1.order ≤ 2040 := by
  by_cases h : rollP of rels act order ∧ cmdP k r n z d
  · have h1 : totRoll (applyP of rels act order k r n z d).1.rels (applyP of rels act order k r n z d).1.order ≤ totRoll rels order + 40 := tot_apply ⟨of, rels, act, order⟩ ⟨k, r, n, z, d⟩
    have h2 := tot_ok h.1
    omega
  · rw [applyP, if_neg h]; decide

theorem cost_tot (l : List RelV) : costRels l ≤ 4 * l.length + sumI totRelV l := by
  induction l with
  | nil => exact Int.le_refl _
  | cons x l ih =>
    have h1 : costRels (x :: l) = costRel x + costRels l := sum_cons costRel x l
    have h2 := sum_cons totRelV x l
    have h3 : totRelV x = x.dig.size + x.ready.length := rfl
    unfold costRel at h1
    rw [List.length_cons]
    omega

theorem rowR_same {α β : Type} (sz r : Nat) {l : List α} {m : List β} (h : l.length = m.length) : rowR sz r l = rowR sz r m := by
  cases l with
  | nil => cases m with
    | nil => rfl
    | cons y m => cases h
  | cons x l => cases m with
    | nil => cases h
    | cons y m => rw [rowR_cons, rowR_cons, h]
theorem isE_same {α β : Type} {l : List α} {m : List β} (h : l.length = m.length) : l.isEmpty = m.isEmpty := by
  cases l with
  | nil => cases m with
    | nil => rfl
    | cons y m => cases h
  | cons x l => cases m with
    | nil => cases h
    | cons y m => rfl

/-- A marked roll that is held: its rows are lent. -/
theorem heldRollR (of act : Int) (rels : List RelV) (order : List Int) (k : Int) (hk : 0 < k) (hk2 : k + costRels rels + order.length ≤ 100000000) : CallsT Try.prog [⟨5, !rels.isEmpty, rowT relO (marksRel k rels)⟩, ⟨1, !order.isEmpty, rowT i64C (marksI (k + costRels rels) order.length)⟩] F.laws_heldRoll [.agg [.v (.int .i64 of), rowR 5 0 rels, .v (.int .i64 act), rowR 1 1 order], .v (.int .i64 k)] (.v (.int .i64 (k + costRels rels + order.length))) [⟨5, !rels.isEmpty, rowT relO (marksRel k rels)⟩, ⟨1, !order.isEmpty, rowT i64C (marksI (k + costRels rels) order.length)⟩] := by
  have hc := sum_nn costRel_nn rels
  have hc' : 0 ≤ costRels rels := hc
  rw [rowR_same 5 0 (marksRel_len k rels).symm, rowR_same 1 1 (marksI_len (k + costRels rels) order.length).symm, isE_same (marksRel_len k rels).symm, isE_same (l := order) (marksI_len (k + costRels rels) order.length).symm]
  refine fnT C.laws_heldRoll ?_
  refine run ?_
  exact r_end [0, 1] []

set_option maxHeartbeats 8000000 in
set_option maxHeartbeats 4000000 in
theorem laws_FnExactRollApply (k0 k1 : Nat) (of : Int) (rels : List RelV) (act : Int) (order : List Int) (k r n z : Int) (d : ByteArray) (hpre : bndRoll rels order ∧ bndCmd d) : CallsT Try.prog [] F.laws_FnExactRollApply [.agg [.v (.int .i64 of), .sl false k0 rels.length 5 (rowT relC rels), .v (.int .i64 act), .sl false k1 order.length 1 (rowT i64C order)], .agg [.v (.int .i64 k), .v (.int .i64 r), .v (.int .i64 n), .v (.int .i64 z), .v (.string d)]] (.v (.bool true)) [] := by
  refine fnT C.laws_FnExactRollApply ?_
  have hb := hpre.1
  have hd := hpre.2
  refine run ?_
  refine r_ifd (fun h => ?_) (fun h => ?_)
  · refine run ?_
    exact r_end [] []
  have hc := cutI_nn h
  rw [hc.1]
  have ht : totRoll rels order ≤ 1048576 := by omega
  have htn := totRoll_nn rels order
  refine run ?_
  refine r_ifd (fun h2 => ?_) (fun h2 => ?_)
  · refine run ?_
    exact r_end [] []
  have hc2 := cutI_nn h2
  have hto := toRollO 1 1 of rels act order hb
  have hsp := spec_RollApply 1 1 of rels act order k r n z d hb ht
  have hqt := tot_q of rels act order k r n z d
  have him := impl_RollApply 1 1 of rels act order k r n z d hb ht
  dsimp only [rollT, rollS] at hsp him
  generalize applyP of rels act order k r n z d = q at *
  refine runS ?_
  refine r_any [(2, .ptr 0 [] 0), (3, .ptr 1 [] 0), (6, .ptr 2 [] 0), (7, .v (.int .i64 q.2))] [⟨0, true, [.v (.int .i64 of), .sl false k0 rels.length 5 (rowT relC rels), .v (.int .i64 act), .sl false k1 order.length 1 (rowT i64C order)]⟩, ⟨0, true, [.v (.int .i64 k), .v (.int .i64 r), .v (.int .i64 n), .v (.int .i64 z), .v (.string d)]⟩, ⟨0, true, [.v (.int .i64 q.1.of), rowR 5 3 q.1.rels, .v (.int .i64 q.1.act), rowR 1 4 q.1.order]⟩, ⟨5, !q.1.rels.isEmpty, rowT relO q.1.rels⟩, ⟨1, !q.1.order.isEmpty, rowT i64C q.1.order⟩] ?_ (AnyOk.of ?_)
  rotate_left
  · refine t_swap 7 ?_
    refine t_swap 6 ?_
    refine t_swap 5 ?_
    refine t_swap 4 ?_
    refine t_swap 3 ?_
    refine t_swap 2 ?_
    refine t_two 1 ?_ ?_
    · refine t_swap 2 ?_
      refine t_two 1 ?_ ?_
      · refine t_head ?_
        refine run ?_
        refine t_head ?_
        refine runC ?_
        refine r_callp true hto ?_
        refine run ?_
        refine t_two 0 ?_ ?_
        · refine t_head ?_
          refine run ?_
          refine t_two 0 ?_ ?_
          · refine t_lin ?_
            refine runC ?_
            refine r_callc ?_
            refine runC ?_
            refine r_callp true hsp ?_
            refine run ?_
            exact ⟨[0, 1, 4, 5, 6], [], Gc.of⟩
          · refine t_head ?_
            refine runC ?_
            refine r_callc ?_
            refine run ?_
            refine t_two 0 ?_ ?_
            · refine t_lin ?_
              refine runC ?_
              refine r_callp true hsp ?_
              refine run ?_
              exact ⟨[0, 1, 4, 5, 6], [], Gc.of⟩
            · refine t_head ?_
              refine runC ?_
              refine r_callp true hsp ?_
              refine run ?_
              refine t_lin ?_
              refine run ?_
              exact ⟨[0, 1, 6, 4, 5], [], Gc.of⟩
        · refine t_head ?_
          refine run ?_
          refine t_lin ?_
          refine runC ?_
          refine r_callc ?_
          refine runC ?_
          refine r_callp true hsp ?_
          refine run ?_
          exact ⟨[0, 1, 4, 5, 6], [], Gc.of⟩
      · refine t_two 0 ?_ ?_
        · refine t_head ?_
          refine run ?_
          refine t_head ?_
          refine run ?_
          refine t_head ?_
          refine runC ?_
          refine r_callp true hto ?_
          refine run ?_
          refine t_two 0 ?_ ?_
          · refine t_lin ?_
            refine runC ?_
            refine r_callc ?_
            refine runC ?_
            refine r_callp true hsp ?_
            refine run ?_
            exact ⟨[0, 1, 4, 5, 6], [], Gc.of⟩
          · refine t_head ?_
            refine runC ?_
            refine r_callc ?_
            refine run ?_
            refine t_two 0 ?_ ?_
            · refine t_lin ?_
              refine runC ?_
              refine r_callp true hsp ?_
              refine run ?_
              exact ⟨[0, 1, 4, 5, 6], [], Gc.of⟩
            · refine t_head ?_
              refine runC ?_
              refine r_callp true hsp ?_
              refine run ?_
              refine t_lin ?_
              refine run ?_
              exact ⟨[0, 1, 6, 4, 5], [], Gc.of⟩
        · refine t_head ?_
          refine run ?_
          refine t_head ?_
          refine run ?_
          refine t_head ?_
          refine runC ?_
          refine r_callp true hto ?_
          refine run ?_
          refine t_two 0 ?_ ?_
          · refine t_lin ?_
            refine runC ?_
            refine r_callc ?_
            refine runC ?_
            refine r_callp true hsp ?_
            refine run ?_
            exact ⟨[0, 1, 4, 5, 6], [], Gc.of⟩
          · refine t_head ?_
            refine runC ?_
            refine r_callc ?_
            refine run ?_
            refine t_two 0 ?_ ?_
            · refine t_lin ?_
              refine runC ?_
              refine r_callp true hsp ?_
              refine run ?_
              exact ⟨[0, 1, 4, 5, 6], [], Gc.of⟩
            · refine t_head ?_
              refine runC ?_
              refine r_callp true hsp ?_
              refine run ?_
              refine t_lin ?_
              refine run ?_
              exact ⟨[0, 1, 6, 4, 5], [], Gc.of⟩
    · refine t_lin ?_
      refine runC ?_
      refine r_callp true hto ?_
      refine runC ?_
      refine r_callc ?_
      refine runC ?_
      refine r_callp true hsp ?_
      refine run ?_
      exact ⟨[0, 1, 2, 5, 6], [], Gc.of⟩
  refine runC ?_
  refine r_callp true hto ?_
  refine runS ?_
  refine r_any [(2, .ptr 0 [] 0), (3, .ptr 1 [] 0), (6, .ptr 2 [] 0), (7, .v (.int .i64 q.2)), (8, .ptr 7 [] 0), (9, .ptr 8 [] 0), (10, .v (.int .i64 q.2))] [⟨0, true, [.v (.int .i64 of), .sl false k0 rels.length 5 (rowT relC rels), .v (.int .i64 act), .sl false k1 order.length 1 (rowT i64C order)]⟩, ⟨0, true, [.v (.int .i64 k), .v (.int .i64 r), .v (.int .i64 n), .v (.int .i64 z), .v (.string d)]⟩, ⟨0, true, [.v (.int .i64 q.1.of), rowR 5 3 q.1.rels, .v (.int .i64 q.1.act), rowR 1 4 q.1.order]⟩, ⟨5, !q.1.rels.isEmpty, rowT relO q.1.rels⟩, ⟨1, !q.1.order.isEmpty, rowT i64C q.1.order⟩, ⟨5, !rels.isEmpty, rowT relO rels⟩, ⟨1, !order.isEmpty, rowT i64C order⟩, ⟨0, true, [.v (.int .i64 of), rowR 5 5 rels, .v (.int .i64 act), rowR 1 6 order]⟩, ⟨0, true, [.v (.int .i64 q.1.of), rowR 5 9 q.1.rels, .v (.int .i64 q.1.act), rowR 1 10 q.1.order]⟩, ⟨5, !q.1.rels.isEmpty, rowT relO q.1.rels⟩, ⟨1, !q.1.order.isEmpty, rowT i64C q.1.order⟩] ?_ (AnyOk.of ?_)
  rotate_left
  · refine t_swap 0 ?_
    refine t_swap 1 ?_
    refine t_swap 6 ?_
    refine t_swap 5 ?_
    refine t_swap 4 ?_
    refine t_swap 3 ?_
    refine t_swap 2 ?_
    refine t_two 1 ?_ ?_
    · refine t_swap 2 ?_
      refine t_two 1 ?_ ?_
      · refine t_head ?_
        refine run ?_
        refine t_head ?_
        refine runC ?_
        refine r_callc ?_
        refine run ?_
        refine t_two 0 ?_ ?_
        · refine t_head ?_
          refine run ?_
          refine t_two 0 ?_ ?_
          · refine t_lin ?_
            refine runC ?_
            refine r_callp true him ?_
            refine run ?_
            exact ⟨[0, 1, 2, 3, 4, 5, 6, 7, 8, 9, 10], [], Gc.of⟩
          · refine t_head ?_
            refine runC ?_
            refine r_callp true him ?_
            refine run ?_
            refine t_lin ?_
            refine run ?_
            exact ⟨[0, 1, 2, 3, 4, 5, 6, 7, 10, 8, 9], [], Gc.of⟩
        · refine t_head ?_
          refine run ?_
          refine t_lin ?_
          refine runC ?_
          refine r_callp true him ?_
          refine run ?_
          exact ⟨[0, 1, 2, 3, 4, 5, 6, 7, 8, 9, 10], [], Gc.of⟩
      · refine t_two 0 ?_ ?_
        · refine t_head ?_
          refine run ?_
          refine t_head ?_
          refine run ?_
          refine t_head ?_
          refine runC ?_
          refine r_callc ?_
          refine run ?_
          refine t_two 0 ?_ ?_
          · refine t_lin ?_
            refine runC ?_
            refine r_callp true him ?_
            refine run ?_
            exact ⟨[0, 1, 2, 3, 4, 5, 6, 7, 8, 9, 10], [], Gc.of⟩
          · refine t_head ?_
            refine runC ?_
            refine r_callp true him ?_
            refine run ?_
            refine t_lin ?_
            refine run ?_
            exact ⟨[0, 1, 2, 3, 4, 5, 6, 7, 10, 8, 9], [], Gc.of⟩
        · refine t_head ?_
          refine run ?_
          refine t_head ?_
          refine run ?_
          refine t_head ?_
          refine runC ?_
          refine r_callc ?_
          refine run ?_
          refine t_two 0 ?_ ?_
          · refine t_lin ?_
            refine runC ?_
            refine r_callp true him ?_
            refine run ?_
            exact ⟨[0, 1, 2, 3, 4, 5, 6, 7, 8, 9, 10], [], Gc.of⟩
          · refine t_head ?_
            refine runC ?_
            refine r_callp true him ?_
            refine run ?_
            refine t_lin ?_
            refine run ?_
            exact ⟨[0, 1, 2, 3, 4, 5, 6, 7, 10, 8, 9], [], Gc.of⟩
    · refine t_lin ?_
      refine runC ?_
      refine r_callc ?_
      refine runC ?_
      refine r_callp true him ?_
      refine run ?_
      exact ⟨[0, 1, 2, 3, 4, 5, 6, 7, 8, 9, 10], [], Gc.of⟩
  have hbq : bndRoll q.1.rels q.1.order := bnd_tot (by omega)
  refine run ?_
  have hcr : 1 + costRels rels + order.length ≤ 100000000 := by
    have := cost_tot rels
    have h4 := sum_nn totRelV_nn rels
    have h6 : totIS order = order.length := rfl
    unfold totRoll totRelS at ht
    omega
  have hcostq : 1 + costRels q.1.rels + q.1.order.length ≤ 100000000 := by
    have := cost_tot q.1.rels
    have h4 := sum_nn totRelV_nn q.1.rels
    have h6 : totIS q.1.order = q.1.order.length := rfl
    unfold totRoll totRelS at hqt
    omega
  have hcn : 0 ≤ costRels rels := sum_nn costRel_nn rels
  have hcnq : 0 ≤ costRels q.1.rels := sum_nn costRel_nn q.1.rels
  have hneg : ¬ (1 + costRels rels + (order.length : Int) < 0) := by omega
  have hnegq : ¬ (1 + costRels q.1.rels + (q.1.order.length : Int) < 0) := by omega
  refine r_calln [5, 6] (markRollR of act rels order 1 (by omega) hcr) ?_
  refine r_do ?_
  repeat (first | refine r_seq ?_ | refine r_region ?_ | refine r_ops ?_ | refine x_seq_n ?_)
  refine r_do ?_
  refine r_do ?_
  rw [decide_eq_false hneg]
  refine run ?_
  refine r_calln [9, 10] (markRollR q.1.of q.1.act q.1.rels q.1.order 1 (by omega) hcostq) ?_
  refine runC ?_
  refine r_calln [9, 10] (heldRollR q.1.of q.1.act q.1.rels q.1.order 1 (by omega) hcostq) ?_
  refine runS ?_
  refine r_any [(6, .ptr 2 [] 0), (7, .v (.int .i64 q.2)), (9, .ptr 8 [] 0), (12, .v (.int .i64 (1 + costRels q.1.rels + q.1.order.length))), (14, .ptr 11 [] 0), (15, .v (.int .i64 q.2))] [⟨0, true, [.v (.int .i64 of), .sl false k0 rels.length 5 (rowT relC rels), .v (.int .i64 act), .sl false k1 order.length 1 (rowT i64C order)]⟩, ⟨0, true, [.v (.int .i64 k), .v (.int .i64 r), .v (.int .i64 n), .v (.int .i64 z), .v (.string d)]⟩, ⟨0, true, [.v (.int .i64 q.1.of), rowR 5 3 q.1.rels, .v (.int .i64 q.1.act), rowR 1 4 q.1.order]⟩, ⟨5, !q.1.rels.isEmpty, rowT relO q.1.rels⟩, ⟨1, !q.1.order.isEmpty, rowT i64C q.1.order⟩, ⟨5, !rels.isEmpty, rowT relO (marksRel 1 rels)⟩, ⟨1, !order.isEmpty, rowT i64C (marksI (1 + costRels rels) order.length)⟩, ⟨0, true, [.v (.int .i64 of), rowR 5 5 rels, .v (.int .i64 act), rowR 1 6 order]⟩, ⟨0, true, [.v (.int .i64 q.1.of), rowR 5 9 q.1.rels, .v (.int .i64 q.1.act), rowR 1 10 q.1.order]⟩, ⟨5, !q.1.rels.isEmpty, rowT relO (marksRel 1 q.1.rels)⟩, ⟨1, !q.1.order.isEmpty, rowT i64C (marksI (1 + costRels q.1.rels) q.1.order.length)⟩, ⟨0, true, [.v (.int .i64 q.1.of), rowR 5 12 q.1.rels, .v (.int .i64 q.1.act), rowR 1 13 q.1.order]⟩, ⟨5, !q.1.rels.isEmpty, rowT relO q.1.rels⟩, ⟨1, !q.1.order.isEmpty, rowT i64C q.1.order⟩] ?_ (AnyOk.of ?_)
  rotate_left
  · refine t_swap 7 ?_
    refine t_swap 6 ?_
    refine t_swap 5 ?_
    refine t_swap 4 ?_
    refine t_swap 3 ?_
    refine t_swap 2 ?_
    refine t_two 1 ?_ ?_
    · refine t_swap 2 ?_
      refine t_two 1 ?_ ?_
      · refine t_head ?_
        refine run ?_
        refine t_head ?_
        refine runC ?_
        refine r_callp true hto ?_
        refine run ?_
        refine t_two 0 ?_ ?_
        · refine t_head ?_
          refine run ?_
          refine t_two 0 ?_ ?_
          · refine t_lin ?_
            refine runC ?_
            refine r_callc ?_
            refine runC ?_
            refine r_callp true him ?_
            refine run ?_
            exact ⟨[0, 1, 2, 3, 4, 5, 6, 7, 8, 9, 10, 13, 14, 15], [], Gc.of⟩
          · refine t_head ?_
            refine runC ?_
            refine r_callc ?_
            refine run ?_
            refine t_two 0 ?_ ?_
            · refine t_lin ?_
              refine runC ?_
              refine r_callp true him ?_
              refine run ?_
              exact ⟨[0, 1, 2, 3, 4, 5, 6, 7, 8, 9, 10, 13, 14, 15], [], Gc.of⟩
            · refine t_head ?_
              refine runC ?_
              refine r_callp true him ?_
              refine run ?_
              refine t_lin ?_
              refine run ?_
              exact ⟨[0, 1, 2, 3, 4, 5, 6, 7, 8, 9, 10, 15, 13, 14], [], Gc.of⟩
        · refine t_head ?_
          refine run ?_
          refine t_lin ?_
          refine runC ?_
          refine r_callc ?_
          refine runC ?_
          refine r_callp true him ?_
          refine run ?_
          exact ⟨[0, 1, 2, 3, 4, 5, 6, 7, 8, 9, 10, 13, 14, 15], [], Gc.of⟩
      · refine t_two 0 ?_ ?_
        · refine t_head ?_
          refine run ?_
          refine t_head ?_
          refine run ?_
          refine t_head ?_
          refine runC ?_
          refine r_callp true hto ?_
          refine run ?_
          refine t_two 0 ?_ ?_
          · refine t_lin ?_
            refine runC ?_
            refine r_callc ?_
            refine runC ?_
            refine r_callp true him ?_
            refine run ?_
            exact ⟨[0, 1, 2, 3, 4, 5, 6, 7, 8, 9, 10, 13, 14, 15], [], Gc.of⟩
          · refine t_head ?_
            refine runC ?_
            refine r_callc ?_
            refine run ?_
            refine t_two 0 ?_ ?_
            · refine t_lin ?_
              refine runC ?_
              refine r_callp true him ?_
              refine run ?_
              exact ⟨[0, 1, 2, 3, 4, 5, 6, 7, 8, 9, 10, 13, 14, 15], [], Gc.of⟩
            · refine t_head ?_
              refine runC ?_
              refine r_callp true him ?_
              refine run ?_
              refine t_lin ?_
              refine run ?_
              exact ⟨[0, 1, 2, 3, 4, 5, 6, 7, 8, 9, 10, 15, 13, 14], [], Gc.of⟩
        · refine t_head ?_
          refine run ?_
          refine t_head ?_
          refine run ?_
          refine t_head ?_
          refine runC ?_
          refine r_callp true hto ?_
          refine run ?_
          refine t_two 0 ?_ ?_
          · refine t_lin ?_
            refine runC ?_
            refine r_callc ?_
            refine runC ?_
            refine r_callp true him ?_
            refine run ?_
            exact ⟨[0, 1, 2, 3, 4, 5, 6, 7, 8, 9, 10, 13, 14, 15], [], Gc.of⟩
          · refine t_head ?_
            refine runC ?_
            refine r_callc ?_
            refine run ?_
            refine t_two 0 ?_ ?_
            · refine t_lin ?_
              refine runC ?_
              refine r_callp true him ?_
              refine run ?_
              exact ⟨[0, 1, 2, 3, 4, 5, 6, 7, 8, 9, 10, 13, 14, 15], [], Gc.of⟩
            · refine t_head ?_
              refine runC ?_
              refine r_callp true him ?_
              refine run ?_
              refine t_lin ?_
              refine run ?_
              exact ⟨[0, 1, 2, 3, 4, 5, 6, 7, 8, 9, 10, 15, 13, 14], [], Gc.of⟩
    · refine t_lin ?_
      refine runC ?_
      refine r_callp true hto ?_
      refine runC ?_
      refine r_callc ?_
      refine runC ?_
      refine r_callp true him ?_
      refine run ?_
      exact ⟨[0, 1, 2, 3, 4, 5, 6, 7, 8, 9, 10, 11, 14, 15], [], Gc.of⟩
  refine run ?_
  refine r_calln [9, 10] (heldRollR q.1.of q.1.act q.1.rels q.1.order 1 (by omega) hcostq) ?_
  refine run ?_
  exact r_end [] []
instance (k0 k1 : Nat) (of : Int) (rels : List RelV) (act : Int) (order : List Int) (k r n z : Int) (d : ByteArray) : Con Try.prog F.laws_FnExactRollApply [.agg [.v (.int .i64 of), .sl false k0 rels.length 5 (rowT relC rels), .v (.int .i64 act), .sl false k1 order.length 1 (rowT i64C order)], .agg [.v (.int .i64 k), .v (.int .i64 r), .v (.int .i64 n), .v (.int .i64 z), .v (.string d)]] (bndRoll rels order ∧ bndCmd d) (.v (.bool true)) [] := ⟨fun h => laws_FnExactRollApply k0 k1 of rels act order k r n z d h⟩

end Go.TL
