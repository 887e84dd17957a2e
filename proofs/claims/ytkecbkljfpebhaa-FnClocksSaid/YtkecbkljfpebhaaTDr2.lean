/- A drawn region with two operations that have no order between them, both listings written out by simp. No conditions. -/
import Derived.Test.YtkecbkljfpebhaaTTwo
import Derived.Test.YtkecbkljfpebhaaTGo3
namespace Go.TL
set_option linter.unusedSimpArgs false
open Go.RowKit

theorem r_draw2 {P : Program} {M n : Nat} {fr : Nat → T} {S : Store} {Q : Ex → (Nat → T) → Store → Prop} {id : Nat} {l : List Oper} (a : Nat) (lf : List (Nat × T)) (S2 : Store) {lA lB : List Oper}
    (hQ : Q .normal (frm lf) S2)
    (hA : wpOpsT P lA.toArray n (.any 0 [] []) lA (fun fr' S' => ∃ keep fz, Gc M S' fr' S2 (frm lf) keep fz) fr S) (hB : wpOpsT P lB.toArray n (.any 0 [] []) lB (fun fr' S' => ∃ keep fz, Gc M S' fr' S2 (frm lf) keep fz) fr S)
    (hlA : addA l a = lA := by simp only [addA, swapB, trO, tr, edgeC, List.length_cons, List.length_nil, List.range, List.range.loop, Nat.reduceAdd, Nat.reduceEqDiff, Nat.reduceSub, List.map_cons, List.map_nil, List.getElem?_cons_zero, List.getElem?_cons_succ, reduceCtorEq, reduceIte, List.push_toArray, List.map_toArray, Option.map_some, Option.map_none, List.append_nil, List.nil_append, List.cons_append, decide_true, decide_false, Bool.false_eq_true, Nat.zero_add, Nat.reduceBEq, Nat.zero_ne_add_one, Nat.add_one_ne_zero, Nat.add_right_cancel_iff, Nat.succ_ne_self, Nat.left_eq_add, Nat.add_eq_left]; exact rfl) (hlB : swapB l a = lB := by simp only [addA, swapB, trO, tr, edgeC, List.length_cons, List.length_nil, List.range, List.range.loop, Nat.reduceAdd, Nat.reduceEqDiff, Nat.reduceSub, List.map_cons, List.map_nil, List.getElem?_cons_zero, List.getElem?_cons_succ, reduceCtorEq, reduceIte, List.push_toArray, List.map_toArray, Option.map_some, Option.map_none, List.append_nil, List.nil_append, List.cons_append, decide_true, decide_false, Bool.false_eq_true, Nat.zero_add, Nat.reduceBEq, Nat.zero_ne_add_one, Nat.add_one_ne_zero, Nat.add_right_cancel_iff, Nat.succ_ne_self, Nat.left_eq_add, Nat.add_eq_left]; exact rfl)
    (hm : P.follows .mixedOrders = true := by kernel_rfl) (ha : Nat.blt (a + 1) l.length = true := by rfl)
    (hp : (l.all fun o => plainOp o.op) = true := by decide +kernel) (okA : drawOk lA.toArray = true := by decide +kernel) (okB : drawOk lB.toArray = true := by decide +kernel) : wpT P M n (.region id l.toArray true) Q fr S :=
  W.draw2 a (frm lf) S2 hm (by simpa [Nat.blt_eq] using ha) hlA hlB (fun i o h => by
    rw [List.getElem?_toArray] at h
    exact List.all_eq_true.1 hp o (List.mem_of_getElem? h)) okA okB hA hB hQ

/-- The straight line, as far as it goes without a drawn region. -/
theorem runS {p q : Prop} (h : q) (w : Hid q → p := by
    intro h
    repeat (first
      | refine r_seq ?_ | refine r_region ?_ | refine r_gd ?_ | refine r_gcall ?_ | refine r_lit (enc := i64C) [_, _] ?_ | refine r_lit (enc := i64C) [_, _, _] ?_ | refine r_lit (enc := i64C) [_, _, _, _] ?_ | refine r_lit (enc := i64C) [_, _, _, _, _] ?_ | refine r_lit (enc := u8C) (lit2 _ _) ?_ | refine r_lit (enc := u8C) [_, _, _, _] ?_ | refine r_lit (enc := strC) [_, _] ?_ | refine r_do ?_ | refine r_do0 ?_ | refine r_callc ?_ | refine r_appa ?_ | refine r_app1 ?_ | refine r_appn (enc := strC) ?_ | refine r_appn (enc := i64C) ?_ | refine r_appn (enc := u8C) ?_ | refine r_ops ?_ | refine x_seq_n ?_ | refine r_block ?_ | refine r_skip ?_ | refine r_exit ?_ | refine r_ret ?_
      | refine x_seq_r ?_ | refine x_seq_e ?_ | refine x_block_n ?_ | refine x_block_r ?_ | refine x_block_e ?_ | refine x_block_o rfl ?_ | refine r_not ?_ | refine r_cT ?_ | refine r_cF ?_ | refine r_ct ?_ | refine r_cf ?_)
    exact h.out) : p := w ⟨h⟩

end Go.TL
