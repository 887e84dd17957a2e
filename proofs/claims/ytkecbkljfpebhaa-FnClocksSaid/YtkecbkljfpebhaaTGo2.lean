/- The walk: calls, bounds, cuts, strings, structs. No conditions. -/
import Derived.Test.YtkecbkljfpebhaaTGo
namespace Go.TL
set_option linter.unusedSimpArgs false
open Go.RowKit

/-- One more in front; kept as it is, so that its length is. -/
def cat1 {α : Type} (x : α) (l : List α) : List α := [x] ++ l
theorem cat1_len {α : Type} (x : α) (l : List α) : (cat1 x l).length = l.length + 1 := rfl
/-- Two, as a list; kept as it is, so that its length is. -/
def lit2 {α : Type} (x y : α) : List α := [x, y]
theorem lit2_len {α : Type} (x y : α) : (lit2 x y).length = 2 := rfl
/-- A function's contract, from its body. -/
theorem fnT {P : Program} {g : FuncId} {fn : Func} {c : Code} {S : Store} {args : List T} {res : T} {S1 : Store} (hf : P.funcs[g]? = some fn) (hw : wpT P S.length fn.ntmps c (EndT P S.length fn res S1) (initF args) S)
    (hb : fn.body = some c := by rfl) (hn : (fn.name == "runtime.NumGoroutine") = false := by decide +kernel) (ha : Nat.ble args.length fn.ntmps = true := by rfl) : CallsT P S g args res S1 :=
  CallsT.of_W hf hb hn (Nat.le_of_ble_eq_true ha) (W.of hw)

/-- A contract that the walk finds by itself. -/
class Con (P : Program) (g : FuncId) (args : List T) (pre : outParam Prop) (res : outParam T) (S1 : outParam Store) : Prop where
  ok : pre → CallsT P [] g args res S1

theorem backS_0 (S S1 : Store) : backS [] S S1 = S ++ S1.map (Root.ren (backId [] S.length)) := by
  unfold backS
  simp only [List.idxOf?_nil, List.length_nil, List.drop_zero]
  congr 1
  apply List.ext_getElem?
  intro i
  rw [List.getElem?_map, List.getElem?_zipIdx]
  cases S[i]? <;> rfl
@[go_sem] theorem backId_0 (n i : Nat) : backId [] n i = n + i := by simp [backId]
theorem Fits.none (S : Store) : Fits S [] [] := ⟨rfl, List.nodup_nil, fun r h => by simp at h, rfl⟩
def freeS (L : Nat) (S : Store) : Bool := S.all fun x => allTs (leafFree L) x.cs

theorem call_frame {P : Program} {f : FuncId} {rt : Bool} {S S1 S' : Store} {targs ts1 ts2 : List T} {res2 res : T} (hs : CallsT P [] f ts2 res2 S1) (hk : Wks targs ts1) (ha : lendTs rt S [] 1 ts1 = some ts2) (hr : allT (leafFree 1) res2 = true) (hf : freeS 1 S1 = true)
    (hres : ren (backId [] S.length) res2 = res) (hS : S ++ S1.map (Root.ren (backId [] S.length)) = S') : CallsT P S f targs res S' := by
  have hF : FreeS 1 S1 := fun x hx _ => List.all_eq_true.1 hf x hx
  have := hs.frame 1 (by decide) (Fits.none S) hk ha hr hF (Nat.zero_le _)
  rw [hres, backS_0, hS] at this
  exact this

attribute [go_sem] freeS
@[go_sem] theorem map_ren (g : Nat → Nat) (x : Root) (S : Store) : List.map (Root.ren g) (x :: S) = Root.ren g x :: List.map (Root.ren g) S := List.map_cons ..
@[go_sem] theorem map_ren_nil (g : Nat → Nat) : List.map (Root.ren g) [] = [] := rfl
attribute [go_sem] List.append_nil List.length_nil

section
variable {P : Program} {n : Nat} {S : Store} {fr : Nat → T} {ops : Array Oper} {d : Nat} {ty : TypeId} {pos : String} {aft : Array Edge} {rest : List Oper} {K : (Nat → T) → Store → Prop}

/-- A call of a function that has memory of its own only; what is lent is lent under one tag (rt), or as it is. -/
theorem r_callp {pu pu' : Dr} {gd : Option (Nat × Bool)} {f : FuncId} {args : List Operand} {tys : Array TypeId} {ts2 : List T} {res2 res : T} {S1 S' : Store} (rt : Bool) (hs : CallsT P [] f ts2 res2 S1) (h : wpOpsT P ops n pu' rest K (upd fr d res) S')
    (hw : wantedT ops fr ⟨some d, .call ⟨.value (.func f), args.toArray, tys⟩, ty, pos, aft, gd⟩ = some true := by rfl)
    {ts1 : List T} (hk : Wks (args.map (TL.ev fr)) ts1 := by first | exact Wks.same _ | (simp only [go_sem, ↓reduceIte, Nat.reduceEqDiff, Nat.reduceMul, Nat.reduceAdd, Nat.reduceSub, Nat.reduceLT, Nat.reduceGT, Nat.reduceLeDiff, Nat.reduceBEq, Int.reduceLT, Int.reduceLE, Int.reduceNe, Int.reduceEq, Int.reduceToNat, Int.reduceAdd, Int.reduceSub, Int.reduceMul, Int.reduceNeg, Nat.reducePow, Int.reducePow, Nat.reduceSubDiff, decide_true, decide_false, reduceCtorEq, or_self, or_false, false_or, or_true, true_or, if_false, gt_iff_lt, ge_iff_le, ne_eq, not_true_eq_false, not_false_eq_true, and_self, beq_self_eq_true, Bool.false_eq_true]; try (repeat (first | exact True.intro | exact Wk.refl _ | exact Wk.nil _ _ | exact Wk.dead _ | exact Wk.bT (by assumption) | exact Wk.bF (by assumption) | exact Wk.eqI (by omega) | exact WkS.refl _ | exact Wks.same _ | exact Wks.nil | exact WkS.nil | refine And.intro ?_ ?_ | refine Wk.aggs ?_ | refine Wk.tups ?_ | refine Wks.cons ?_ ?_ | refine WkS.cons (by first | exact fun _ => rfl | exact fun h => absurd h Bool.false_ne_true) ?_ ?_ ?_ | assumption | exact (fun h => h) | exact (fun h => absurd h Bool.false_ne_true) | intro _)))) (ha : lendTs rt S [] 1 ts1 = some ts2 := by (first | (simp only [go_sem, ↓reduceIte, Nat.reduceEqDiff, Nat.reduceMul, Nat.reduceAdd, Nat.reduceSub, Nat.reduceLT, Nat.reduceGT, Nat.reduceLeDiff, Nat.reduceBEq, Int.reduceLT, Int.reduceLE, Int.reduceNe, Int.reduceEq, Int.reduceToNat, Int.reduceAdd, Int.reduceSub, Int.reduceMul, Int.reduceNeg, Nat.reducePow, Int.reducePow, Nat.reduceSubDiff, decide_true, decide_false, reduceCtorEq, or_self, or_false, false_or, or_true, true_or, if_false, gt_iff_lt, ge_iff_le, ne_eq, not_true_eq_false, not_false_eq_true, and_self, beq_self_eq_true, Bool.false_eq_true] <;> with_reducible rfl) | with_reducible rfl))
    (hr : allT (leafFree 1) res2 = true := by (first | (simp only [go_sem, ↓reduceIte, Nat.reduceEqDiff, Nat.reduceMul, Nat.reduceAdd, Nat.reduceSub, Nat.reduceLT, Nat.reduceGT, Nat.reduceLeDiff, Nat.reduceBEq, Int.reduceLT, Int.reduceLE, Int.reduceNe, Int.reduceEq, Int.reduceToNat, Int.reduceAdd, Int.reduceSub, Int.reduceMul, Int.reduceNeg, Nat.reducePow, Int.reducePow, Nat.reduceSubDiff, decide_true, decide_false, reduceCtorEq, or_self, or_false, false_or, or_true, true_or, if_false, gt_iff_lt, ge_iff_le, ne_eq, not_true_eq_false, not_false_eq_true, and_self, beq_self_eq_true, Bool.false_eq_true] <;> with_reducible rfl) | with_reducible rfl)) (hf : freeS 1 S1 = true := by (first | (simp only [go_sem, ↓reduceIte, Nat.reduceEqDiff, Nat.reduceMul, Nat.reduceAdd, Nat.reduceSub, Nat.reduceLT, Nat.reduceGT, Nat.reduceLeDiff, Nat.reduceBEq, Int.reduceLT, Int.reduceLE, Int.reduceNe, Int.reduceEq, Int.reduceToNat, Int.reduceAdd, Int.reduceSub, Int.reduceMul, Int.reduceNeg, Nat.reducePow, Int.reducePow, Nat.reduceSubDiff, decide_true, decide_false, reduceCtorEq, or_self, or_false, false_or, or_true, true_or, if_false, gt_iff_lt, ge_iff_le, ne_eq, not_true_eq_false, not_false_eq_true, and_self, beq_self_eq_true, Bool.false_eq_true] <;> with_reducible rfl) | with_reducible rfl))
    (hres : ren (backId [] S.length) res2 = res := by (first | (simp only [go_sem, ↓reduceIte, Nat.reduceEqDiff, Nat.reduceMul, Nat.reduceAdd, Nat.reduceSub, Nat.reduceLT, Nat.reduceGT, Nat.reduceLeDiff, Nat.reduceBEq, Int.reduceLT, Int.reduceLE, Int.reduceNe, Int.reduceEq, Int.reduceToNat, Int.reduceAdd, Int.reduceSub, Int.reduceMul, Int.reduceNeg, Nat.reducePow, Int.reducePow, Nat.reduceSubDiff, decide_true, decide_false, reduceCtorEq, or_self, or_false, false_or, or_true, true_or, if_false, gt_iff_lt, ge_iff_le, ne_eq, not_true_eq_false, not_false_eq_true, and_self, beq_self_eq_true, Bool.false_eq_true] <;> with_reducible rfl) | with_reducible rfl)) (hS : S ++ S1.map (Root.ren (backId [] S.length)) = S' := by (first | (simp only [go_sem, ↓reduceIte, Nat.reduceEqDiff, Nat.reduceMul, Nat.reduceAdd, Nat.reduceSub, Nat.reduceLT, Nat.reduceGT, Nat.reduceLeDiff, Nat.reduceBEq, Int.reduceLT, Int.reduceLE, Int.reduceNe, Int.reduceEq, Int.reduceToNat, Int.reduceAdd, Int.reduceSub, Int.reduceMul, Int.reduceNeg, Nat.reducePow, Int.reducePow, Nat.reduceSubDiff, decide_true, decide_false, reduceCtorEq, or_self, or_false, false_or, or_true, true_or, if_false, gt_iff_lt, ge_iff_le, ne_eq, not_true_eq_false, not_false_eq_true, and_self, beq_self_eq_true, Bool.false_eq_true] <;> with_reducible rfl) | with_reducible rfl)) (hd : Nat.blt d n = true := by rfl)
    (hp : Dr.step P ops n pu fr S ⟨some d, .call ⟨.value (.func f), args.toArray, tys⟩, ty, pos, aft, gd⟩ res S' pu' := by first | exact Dr.step.txt | exact dr_chain) :
    wpOpsT P ops n pu (⟨some d, .call ⟨.value (.func f), args.toArray, tys⟩, ty, pos, aft, gd⟩ :: rest) K fr S :=
  r_op (opT_call hw (by simpa [okDst, Nat.blt_eq] using hd) (by simp [calleeT, TL.ev]) (call_frame hs hk ha hr hf hres hS)) hp h

/-- A call whose contract is found. -/
theorem r_callc {pu pu' : Dr} {gd : Option (Nat × Bool)} {f : FuncId} {args : List Operand} {tys : Array TypeId} {ts2 : List T} {pre : Prop} {res2 res : T} {S1 S' : Store} (h : wpOpsT P ops n pu' rest K (upd fr d res) S')
    (hw : wantedT ops fr ⟨some d, .call ⟨.value (.func f), args.toArray, tys⟩, ty, pos, aft, gd⟩ = some true := by rfl)
    (ha : lendTs true S [] 1 (args.map (TL.ev fr)) = some ts2 := by (simp only [go_sem, ↓reduceIte, Nat.reduceEqDiff, Nat.reduceMul, Nat.reduceAdd, Nat.reduceSub, Nat.reduceLT, Nat.reduceGT, Nat.reduceLeDiff, Nat.reduceBEq, Int.reduceLT, Int.reduceLE, Int.reduceNe, Int.reduceEq, Int.reduceToNat, Int.reduceAdd, Int.reduceSub, Int.reduceMul, Int.reduceNeg, Nat.reducePow, Int.reducePow, Nat.reduceSubDiff, decide_true, decide_false, reduceCtorEq, or_self, or_false, false_or, or_true, true_or, if_false, gt_iff_lt, ge_iff_le, ne_eq, not_true_eq_false, not_false_eq_true, and_self, beq_self_eq_true, Bool.false_eq_true]; with_reducible rfl)) (c : Con P f ts2 pre res2 S1 := by infer_instance) (hpre : pre := by (first | exact True.intro | omega | (simp only [cat1_len, lit2_len, List.length_replicate, List.length_append, List.length_cons, List.length_nil, List.length_take, List.length_drop, List.length_map, List.length_set]; omega) | assumption | ((repeat' (with_reducible refine And.intro ?_ ?_)) <;> first | exact True.intro | omega | (simp only [cat1_len, lit2_len, List.length_replicate, List.length_append, List.length_cons, List.length_nil, List.length_take, List.length_drop, List.length_map, List.length_set]; omega) | assumption)))
    (hr : allT (leafFree 1) res2 = true := by (first | (simp only [go_sem, ↓reduceIte, Nat.reduceEqDiff, Nat.reduceMul, Nat.reduceAdd, Nat.reduceSub, Nat.reduceLT, Nat.reduceGT, Nat.reduceLeDiff, Nat.reduceBEq, Int.reduceLT, Int.reduceLE, Int.reduceNe, Int.reduceEq, Int.reduceToNat, Int.reduceAdd, Int.reduceSub, Int.reduceMul, Int.reduceNeg, Nat.reducePow, Int.reducePow, Nat.reduceSubDiff, decide_true, decide_false, reduceCtorEq, or_self, or_false, false_or, or_true, true_or, if_false, gt_iff_lt, ge_iff_le, ne_eq, not_true_eq_false, not_false_eq_true, and_self, beq_self_eq_true, Bool.false_eq_true] <;> with_reducible rfl) | with_reducible rfl)) (hf : freeS 1 S1 = true := by (first | (simp only [go_sem, ↓reduceIte, Nat.reduceEqDiff, Nat.reduceMul, Nat.reduceAdd, Nat.reduceSub, Nat.reduceLT, Nat.reduceGT, Nat.reduceLeDiff, Nat.reduceBEq, Int.reduceLT, Int.reduceLE, Int.reduceNe, Int.reduceEq, Int.reduceToNat, Int.reduceAdd, Int.reduceSub, Int.reduceMul, Int.reduceNeg, Nat.reducePow, Int.reducePow, Nat.reduceSubDiff, decide_true, decide_false, reduceCtorEq, or_self, or_false, false_or, or_true, true_or, if_false, gt_iff_lt, ge_iff_le, ne_eq, not_true_eq_false, not_false_eq_true, and_self, beq_self_eq_true, Bool.false_eq_true] <;> with_reducible rfl) | with_reducible rfl))
    (hres : ren (backId [] S.length) res2 = res := by (first | (simp only [go_sem, ↓reduceIte, Nat.reduceEqDiff, Nat.reduceMul, Nat.reduceAdd, Nat.reduceSub, Nat.reduceLT, Nat.reduceGT, Nat.reduceLeDiff, Nat.reduceBEq, Int.reduceLT, Int.reduceLE, Int.reduceNe, Int.reduceEq, Int.reduceToNat, Int.reduceAdd, Int.reduceSub, Int.reduceMul, Int.reduceNeg, Nat.reducePow, Int.reducePow, Nat.reduceSubDiff, decide_true, decide_false, reduceCtorEq, or_self, or_false, false_or, or_true, true_or, if_false, gt_iff_lt, ge_iff_le, ne_eq, not_true_eq_false, not_false_eq_true, and_self, beq_self_eq_true, Bool.false_eq_true] <;> with_reducible rfl) | with_reducible rfl)) (hS : S ++ S1.map (Root.ren (backId [] S.length)) = S' := by (first | (simp only [go_sem, ↓reduceIte, Nat.reduceEqDiff, Nat.reduceMul, Nat.reduceAdd, Nat.reduceSub, Nat.reduceLT, Nat.reduceGT, Nat.reduceLeDiff, Nat.reduceBEq, Int.reduceLT, Int.reduceLE, Int.reduceNe, Int.reduceEq, Int.reduceToNat, Int.reduceAdd, Int.reduceSub, Int.reduceMul, Int.reduceNeg, Nat.reducePow, Int.reducePow, Nat.reduceSubDiff, decide_true, decide_false, reduceCtorEq, or_self, or_false, false_or, or_true, true_or, if_false, gt_iff_lt, ge_iff_le, ne_eq, not_true_eq_false, not_false_eq_true, and_self, beq_self_eq_true, Bool.false_eq_true] <;> with_reducible rfl) | with_reducible rfl)) (hd : Nat.blt d n = true := by rfl)
    (hp : Dr.step P ops n pu fr S ⟨some d, .call ⟨.value (.func f), args.toArray, tys⟩, ty, pos, aft, gd⟩ res S' pu' := by first | exact Dr.step.txt | exact dr_chain) :
    wpOpsT P ops n pu (⟨some d, .call ⟨.value (.func f), args.toArray, tys⟩, ty, pos, aft, gd⟩ :: rest) K fr S :=
  r_op (opT_call hw (by simpa [okDst, Nat.blt_eq] using hd) (by simp [calleeT, TL.ev]) (call_frame (c.ok hpre) (.same _) ha hr hf hres hS)) hp h

/-- A guarded call of a function that leaves no memory. -/
theorem r_gcall {pu pu' : Dr} {j dj : Nat} {w : Bool} {q : Prop} [Decidable q] {f : FuncId} {args : List Operand} {tys : Array TypeId} {ts2 : List T} {pre : Prop} {res2 : T} (h : wpOpsT P ops n pu' rest K (upd fr d (gT q res2)) S)
    (hdj : (ops[j]?).bind (·.dst) = some dj := by rfl) (hb : wantG (fr dj) w = some (decide q) := by simp only [go_sem, ↓reduceIte, Nat.reduceEqDiff, Nat.reduceMul, Nat.reduceAdd, Nat.reduceSub, Nat.reduceLT, Nat.reduceGT, Nat.reduceLeDiff, Nat.reduceBEq, Int.reduceLT, Int.reduceLE, Int.reduceNe, Int.reduceEq, Int.reduceToNat, Int.reduceAdd, Int.reduceSub, Int.reduceMul, Int.reduceNeg, Nat.reducePow, Int.reducePow, Nat.reduceSubDiff, decide_true, decide_false, reduceCtorEq, or_self, or_false, false_or, or_true, true_or, if_false, gt_iff_lt, ge_iff_le, ne_eq, not_true_eq_false, not_false_eq_true, and_self, beq_self_eq_true, Bool.false_eq_true]; with_reducible rfl)
    (ha : q → lendTs true S [] 1 (args.map (TL.ev fr)) = some ts2 := by
      intro hg
      first
      | (simp only [gT_1 hg, gT_2 hg, go_sem, ↓reduceIte, Nat.reduceEqDiff, Nat.reduceMul, Nat.reduceAdd, Nat.reduceSub, Nat.reduceLT, Nat.reduceGT, Nat.reduceLeDiff, Nat.reduceBEq, Int.reduceLT, Int.reduceLE, Int.reduceNe, Int.reduceEq, Int.reduceToNat, Int.reduceAdd, Int.reduceSub, Int.reduceMul, Int.reduceNeg, Nat.reducePow, Int.reducePow, Nat.reduceSubDiff, decide_true, decide_false, reduceCtorEq, or_self, or_false, false_or, or_true, true_or, if_false, gt_iff_lt, ge_iff_le, ne_eq, not_true_eq_false, not_false_eq_true, and_self, beq_self_eq_true, Bool.false_eq_true]; with_reducible rfl)
      | (simp only [gT_1 hg, gT_2 hg, gT_1 hg.1, gT_2 hg.1, gT_1 hg.2, go_sem, ↓reduceIte, Nat.reduceEqDiff, Nat.reduceMul, Nat.reduceAdd, Nat.reduceSub, Nat.reduceLT, Nat.reduceGT, Nat.reduceLeDiff, Nat.reduceBEq, Int.reduceLT, Int.reduceLE, Int.reduceNe, Int.reduceEq, Int.reduceToNat, Int.reduceAdd, Int.reduceSub, Int.reduceMul, Int.reduceNeg, Nat.reducePow, Int.reducePow, Nat.reduceSubDiff, decide_true, decide_false, reduceCtorEq, or_self, or_false, false_or, or_true, true_or, if_false, gt_iff_lt, ge_iff_le, ne_eq, not_true_eq_false, not_false_eq_true, and_self, beq_self_eq_true, Bool.false_eq_true]; with_reducible rfl)
      | (simp only [gT_1 hg, gT_2 hg, gT_1 hg.1, gT_2 hg.1, gT_1 hg.2, gT_1 hg.1.1, gT_2 hg.1.1, gT_1 hg.1.2, go_sem, ↓reduceIte, Nat.reduceEqDiff, Nat.reduceMul, Nat.reduceAdd, Nat.reduceSub, Nat.reduceLT, Nat.reduceGT, Nat.reduceLeDiff, Nat.reduceBEq, Int.reduceLT, Int.reduceLE, Int.reduceNe, Int.reduceEq, Int.reduceToNat, Int.reduceAdd, Int.reduceSub, Int.reduceMul, Int.reduceNeg, Nat.reducePow, Int.reducePow, Nat.reduceSubDiff, decide_true, decide_false, reduceCtorEq, or_self, or_false, false_or, or_true, true_or, if_false, gt_iff_lt, ge_iff_le, ne_eq, not_true_eq_false, not_false_eq_true, and_self, beq_self_eq_true, Bool.false_eq_true]; with_reducible rfl))
    (c : Con P f ts2 pre res2 [] := by infer_instance) (hpre : q → pre := by (intro hg; (first | exact True.intro | omega | (simp only [cat1_len, lit2_len, List.length_replicate, List.length_append, List.length_cons, List.length_nil, List.length_take, List.length_drop, List.length_map, List.length_set]; omega) | assumption | ((repeat' (with_reducible refine And.intro ?_ ?_)) <;> first | exact True.intro | omega | (simp only [cat1_len, lit2_len, List.length_replicate, List.length_append, List.length_cons, List.length_nil, List.length_take, List.length_drop, List.length_map, List.length_set]; omega) | assumption))))
    (hr : allT (leafFree 1) res2 = true := by (first | (simp only [go_sem, ↓reduceIte, Nat.reduceEqDiff, Nat.reduceMul, Nat.reduceAdd, Nat.reduceSub, Nat.reduceLT, Nat.reduceGT, Nat.reduceLeDiff, Nat.reduceBEq, Int.reduceLT, Int.reduceLE, Int.reduceNe, Int.reduceEq, Int.reduceToNat, Int.reduceAdd, Int.reduceSub, Int.reduceMul, Int.reduceNeg, Nat.reducePow, Int.reducePow, Nat.reduceSubDiff, decide_true, decide_false, reduceCtorEq, or_self, or_false, false_or, or_true, true_or, if_false, gt_iff_lt, ge_iff_le, ne_eq, not_true_eq_false, not_false_eq_true, and_self, beq_self_eq_true, Bool.false_eq_true] <;> with_reducible rfl) | with_reducible rfl)) (hres : ren (backId [] S.length) res2 = res2 := by (first | (simp only [go_sem, ↓reduceIte, Nat.reduceEqDiff, Nat.reduceMul, Nat.reduceAdd, Nat.reduceSub, Nat.reduceLT, Nat.reduceGT, Nat.reduceLeDiff, Nat.reduceBEq, Int.reduceLT, Int.reduceLE, Int.reduceNe, Int.reduceEq, Int.reduceToNat, Int.reduceAdd, Int.reduceSub, Int.reduceMul, Int.reduceNeg, Nat.reducePow, Int.reducePow, Nat.reduceSubDiff, decide_true, decide_false, reduceCtorEq, or_self, or_false, false_or, or_true, true_or, if_false, gt_iff_lt, ge_iff_le, ne_eq, not_true_eq_false, not_false_eq_true, and_self, beq_self_eq_true, Bool.false_eq_true] <;> with_reducible rfl) | with_reducible rfl)) (hd : Nat.blt d n = true := by rfl)
    (hp : Dr.step P ops n pu fr S ⟨some d, .call ⟨.value (.func f), args.toArray, tys⟩, ty, pos, aft, some (j, w)⟩ (gT q res2) S pu' := by first | exact Dr.step.txt | exact dr_chain) :
    wpOpsT P ops n pu (⟨some d, .call ⟨.value (.func f), args.toArray, tys⟩, ty, pos, aft, some (j, w)⟩ :: rest) K fr S :=
  r_op (opT_gc (wantG_eq rfl hdj hb) (by simpa [okDst, Nat.blt_eq] using hd) (fun _ => by simp [calleeT, TL.ev]) (fun hq => call_frame (c.ok (hpre hq)) (.same _) (ha hq) hr rfl hres (by simp))) hp h
end

@[go_sem] theorem lend_nil (rt : Bool) (S : Store) (L : Nat) : lendTs rt S [] L [] = some [] := rfl
theorem lend_cons (rt : Bool) (S : Store) (L : Nat) (c : T) (l : List T) : lendTs rt S [] L (c :: l) = (lendT rt S [] L c).bind fun t => (lendTs rt S [] L l).map (t :: ·) := by
  rw [lendTs]
  cases lendT rt S [] L c <;> cases lendTs rt S [] L l <;> rfl
@[go_sem] theorem lend_v (rt : Bool) (S : Store) (L : Nat) (x : Value) (l : List T) : lendTs rt S [] L (.v x :: l) = (lendTs rt S [] L l).map (.v x :: ·) := by rw [lend_cons, lendT]; rfl
@[go_sem] theorem lend_sl (rt : Bool) (S : Store) (L k n e : Nat) (cs l : List T) : lendTs rt S [] L (.sl false k n e cs :: l) = (lendTs rt S [] L l).map (.sl false (if rt = true then L else k) n e cs :: ·) := by rw [lend_cons, lendT]; rfl
@[go_sem] theorem lend_agg (rt : Bool) (S : Store) (L : Nat) (cs l : List T) : lendTs rt S [] L (.agg cs :: l) = (lendTs rt S [] L cs).bind fun cs => (lendTs rt S [] L l).map (.agg cs :: ·) := by
  rw [lend_cons, lendT]; cases lendTs rt S [] L cs <;> rfl
@[go_sem] theorem lend_clo (rt : Bool) (S : Store) (L f : Nat) (cs l : List T) : lendTs rt S [] L (.clo f cs :: l) = (lendTs rt S [] L cs).bind fun cs => (lendTs rt S [] L l).map (.clo f cs :: ·) := by
  rw [lend_cons, lendT]; cases lendTs rt S [] L cs <;> rfl
/-- A row of one's own, whole, is lent as frozen. -/
def lendR (x : Option (Nat × List T)) (L off n : Nat) : Option T :=
  match x with
  | some (e, cs) => if allTs leafFz cs = true ∧ off + n * e ≤ cs.length then some (.sl false L n e (zns ((cs.drop off).take (n * e)))) else none
  | none => none
@[go_sem] theorem lend_ref (rt : Bool) (S : Store) (L r n off : Nat) (p : List Nat) (l : List T) : lendTs rt S [] L (.ref r p off n :: l) = (lendR (S.at false r p) L off n).bind fun t => (lendTs rt S [] L l).map (t :: ·) := by
  rw [lend_cons, lendT, List.idxOf?_nil]; rfl
def lendP (x : Option (Nat × List T)) (L off : Nat) : Option T :=
  match x with
  | some (_, cs) => if allTs leafFz cs = true then some (.pz L (zns cs) off) else none
  | none => none
@[go_sem] theorem lend_ptr (rt : Bool) (S : Store) (L r off : Nat) (p : List Nat) (l : List T) : lendTs rt S [] L (.ptr r p off :: l) = (lendP (S.at false r p) L off).bind fun t => (lendTs rt S [] L l).map (t :: ·) := by
  rw [lend_cons, lendT, List.idxOf?_nil]; rfl
@[go_sem] theorem lend_pz (rt : Bool) (S : Store) (L k off : Nat) (cs l : List T) : lendTs rt S [] L (.pz k cs off :: l) = (lendTs rt S [] L l).map (.pz (if rt = true then L else k) cs off :: ·) := by rw [lend_cons, lendT]; rfl
@[go_sem] theorem lendR_row {α : Type} {enc : α → List T} {sz : Nat} [RowE enc sz] (L : Nat) (l : List α) : lendR (some (sz, rowT enc l)) L 0 l.length = some (.sl false L l.length sz (rowT enc l)) := by
  simp only [lendR, fz_row, List.drop_zero, take_row, zn_row, len_row, Nat.zero_add, Nat.le_refl, and_self, if_true]
@[go_sem low] theorem lendR_lit {α : Type} {enc : α → List T} {sz : Nat} [RowE enc sz] (L : Nat) {n : Nat} {l : List α} (h : l.length = n) : lendR (some (sz, rowT enc l)) L 0 n = some (.sl false L n sz (rowT enc l)) := by
  subst h; exact lendR_row L l
attribute [go_sem] lendP

/-! ### Conditions that are asked -/
def chk (c : Prop) [Decidable c] (x : Option T) : Option T := if c then x else none
@[go_sem] theorem chk_pos {c : Prop} [Decidable c] (h : c) (x : Option T) : chk c x = x := if_pos h
def chkE (P : Program) (t : TypeId) (sz : Nat) (x : Option T) : Option T :=
  match elemT P t with
  | some e => if szT P e = some sz ∧ 0 < sz then x else none
  | none => none
attribute [go_sem] chkE

section
variable {P : Program} {S : Store} {α : Type} {enc : α → List T} {sz : Nat}
@[go_sem] theorem idx_row [RowE enc sz] [Inhabited α] (t : TypeId) (k : Nat) (l : List α) (q : IntKind) (i : Int) : indexAddrT P S t (.sl false k l.length sz (rowT enc l)) (.v (.int q i)) = chkE P t sz (chk (0 ≤ i ∧ i < (l.length : Int)) (some (.pz k (enc (nth l i)) 0))) := by
  unfold indexAddrT chkE chk
  cases elemT P t with
  | none =>
    dsimp only
    cases arrT P t with
    | none => rfl
    | some x => obtain ⟨a, b⟩ := x; dsimp only; cases szT P b <;> rfl
  | some e =>
    dsimp only
    cases szT P e with
    | none => simp
    | some z =>
      dsimp only
      by_cases h : 0 ≤ i ∧ i < (l.length : Int)
      · rw [if_pos h, if_pos h]
        by_cases hz : sz = z ∧ 0 < z
        · obtain ⟨rfl, hz⟩ := hz
          rw [if_pos ⟨rfl, hz⟩, if_pos ⟨rfl, hz⟩, row_get l i.toNat (by omega)]
          rfl
        · rw [if_neg hz, if_neg]
          rintro ⟨h1, h2⟩
          simp only [Option.some.injEq] at h1
          exact hz ⟨h1.symm, h1 ▸ h2⟩
      · rw [if_neg h, if_neg h]
        split <;> rfl
/-- A place in a row of one's own. -/
@[go_sem] theorem idx_ref (t : TypeId) (r off n : Nat) (p : List Nat) (q : IntKind) (i : Int) : indexAddrT P S t (.ref r p off n) (.v (.int q i)) = (match elemT P t with
    | some e => match szT P e with
      | some sz => chk (0 ≤ i ∧ i < (n : Int)) (if (S.at false r p).isSome then some (.ptr r p (off + i.toNat * sz)) else none)
      | none => none
    | none => none) := by
  unfold indexAddrT chk
  cases elemT P t with
  | none =>
    dsimp only
    cases arrT P t with
    | none => rfl
    | some x => obtain ⟨a, b⟩ := x; dsimp only; cases szT P b <;> rfl
  | some e => rfl
@[go_sem] theorem idx_arr (t : TypeId) (r off : Nat) (p : List Nat) (q : IntKind) (i : Int) : indexAddrT P S t (.ptr r p off) (.v (.int q i)) = (match elemT P t with
    | some _ => none
    | none => match arrT P t with
      | some (n, e) => match szT P e with
        | some sz => chk (0 ≤ i ∧ i < (n : Int)) (if (S.at false r p).isSome then some (.ptr r p (off + i.toNat * sz)) else none)
        | none => none
      | none => none) := by
  unfold indexAddrT chk
  cases elemT P t with
  | none =>
    dsimp only
    cases arrT P t with
    | none => rfl
    | some x => obtain ⟨a, b⟩ := x; rfl
  | some e => dsimp only; cases szT P e <;> rfl
@[go_sem] theorem idx_apz (t : TypeId) (k off : Nat) (cs : List T) (q : IntKind) (i : Int) : indexAddrT P S t (.pz k cs off) (.v (.int q i)) = (match elemT P t with
    | some _ => none
    | none => match arrT P t with
      | some (n, e) => match szT P e with
        | some sz => chk (0 ≤ i ∧ i < (n : Int)) (some (.pz k cs (off + i.toNat * sz)))
        | none => none
      | none => none) := by
  unfold indexAddrT chk
  cases elemT P t with
  | none =>
    dsimp only
    cases arrT P t with
    | none => rfl
    | some x => obtain ⟨a, b⟩ := x; rfl
  | some e => dsimp only; cases szT P e <;> rfl

/-- A byte of a string. -/
@[go_sem] theorem idx_str (t : TypeId) (s : ByteArray) (q : IntKind) (i : Int) : indexT P t (.v (.string s)) (.v (.int q i)) = (match P.underlying t with
    | some .string => chk (0 ≤ i ∧ i < (s.size : Int)) (some (.v (.int .u8 (nth (strL s) i))))
    | _ => none) := by
  unfold indexT chk
  dsimp only
  generalize P.underlying t = u
  cases u with
  | none => rfl
  | some u =>
    cases u with
    | string =>
      dsimp only
      by_cases h : 0 ≤ i ∧ i < (s.size : Int)
      · rw [if_pos h.1, if_pos h]
        have hs : i.toNat < s.size := by omega
        have e1 : s[i.toNat]? = some s[i.toNat] := by simp [hs]
        rw [e1, Option.map_some]
        unfold nth
        have e2 : (strL s)[i.toNat]? = some (s[i.toNat].toNat : Int) := by
          unfold strL
          rw [List.getElem?_map, Array.getElem?_toList]
          have : s.data[i.toNat]? = some s.data[i.toNat] := by simp
          rw [this]; rfl
        rw [List.getD_eq_getElem?_getD, e2]; rfl
      · rw [if_neg h]
        split
        · have e1 : s[i.toNat]? = none := by simp; omega
          rw [e1]; rfl
        · rfl
    | _ => rfl

@[go_sem] theorem slice_row [RowE enc sz] (t : TypeId) (k : Nat) (l : List α) (lo hi : Option T) : sliceT P S t (.sl false k l.length sz (rowT enc l)) lo hi = (match elemT P t with
    | some e => match szT P e with
      | some z => if sz = z then (boundsT l.length lo hi).map fun b => .sl false k (b.2 - b.1) sz (((rowT enc l).drop (b.1 * sz)).take ((b.2 - b.1) * sz)) else none
      | none => none
    | none => none) := rfl
end

end Go.TL
