/- Calls that are lent one root to write into. No conditions. -/
import Derived.Test.YtkecbkljfpebhaaTDr3
namespace Go.TL
set_option linter.unusedSimpArgs false
open Go.RowKit

theorem back_one (S : Store) (r : Nat) (y : Root) : backS [r] S [y] = S.set r (Root.ren (backId [r] S.length) y) := by
  have e : backS [r] S [y] = (S.zipIdx.map fun x => match [r].idxOf? x.2 with | some i => Root.ren (backId [r] S.length) (([y][i]?).getD ⟨0, false, []⟩) | none => x.1) ++ [] := rfl
  rw [e, List.append_nil]
  apply List.ext_getElem?
  intro j
  rw [List.getElem?_map, List.getElem?_zipIdx, List.getElem?_set]
  by_cases h : r = j
  · subst h
    simp only [if_true]
    by_cases hl : r < S.length
    · rw [List.getElem?_eq_getElem hl]
      simp [hl]
    · rw [List.getElem?_eq_none (by omega)]
      simp [hl]
  · rw [if_neg h]
    cases S[j]? with
    | none => rfl
    | some x =>
      have : [r].idxOf? (0 + j) = none := by
        rw [Nat.zero_add]
        simp only [List.idxOf?_cons, List.idxOf?_nil]
        rw [show (r == j) = false by simp [h]]
        rfl
      simp only [Option.map_some, this]
theorem fits_one {S : Store} {r : Nat} {x : Root} (h : S[r]? = some x) (hn : gcTs [r] x.cs = x.cs) : Fits S [r] [x] :=
  ⟨rfl, List.nodup_cons.2 ⟨List.not_mem_nil, List.nodup_nil⟩, fun q hq => by
    rw [List.mem_singleton.1 hq]
    exact (List.getElem?_eq_some_iff.1 h).1, by
    show [x] = [Root.gc [r] ((S[r]?).getD ⟨0, false, []⟩)]
    rw [h, Option.getD_some, Root.gc, hn]⟩

theorem lend1_cons (rt : Bool) (S : Store) (r L : Nat) (c : T) (l : List T) : lendTs rt S [r] L (c :: l) = (lendT rt S [r] L c).bind fun t => (lendTs rt S [r] L l).map (t :: ·) := by
  rw [lendTs]
  cases lendT rt S [r] L c <;> cases lendTs rt S [r] L l <;> rfl
@[go_sem] theorem lend1_nil (rt : Bool) (S : Store) (r L : Nat) : lendTs rt S [r] L [] = some [] := rfl
@[go_sem] theorem lend1_v (rt : Bool) (S : Store) (r L : Nat) (x : Value) (l : List T) : lendTs rt S [r] L (.v x :: l) = (lendTs rt S [r] L l).map (.v x :: ·) := by rw [lend1_cons, lendT]; rfl
@[go_sem] theorem lend1_sl (rt : Bool) (S : Store) (r L k n e : Nat) (cs l : List T) : lendTs rt S [r] L (.sl false k n e cs :: l) = (lendTs rt S [r] L l).map (.sl false (if rt = true then L else k) n e cs :: ·) := by rw [lend1_cons, lendT]; rfl
@[go_sem] theorem lend1_ptr (rt : Bool) (S : Store) (r L off : Nat) (p : List Nat) (l : List T) : lendTs rt S [r] L (.ptr r p off :: l) = (lendTs rt S [r] L l).map (.ptr 0 p off :: ·) := by
  rw [lend1_cons, lendT, List.idxOf?_cons, beq_self_eq_true]; rfl
@[go_sem low] theorem lend1_ref (rt : Bool) (S : Store) (r L q n off : Nat) (p : List Nat) (l : List T) (h : (r == q) = false) : lendTs rt S [r] L (.ref q p off n :: l) = (lendR (S.at false q p) L off n).bind fun t => (lendTs rt S [r] L l).map (t :: ·) := by
  rw [lend1_cons, lendT, List.idxOf?_cons, h, List.idxOf?_nil]; rfl

/-- A contract of a function that is lent one root, found by itself. -/
class Con1 (P : Program) (x : Root) (g : FuncId) (args : List T) (pre : outParam Prop) (res : outParam T) (y : outParam Root) : Prop where
  ok : pre → CallsT P [x] g args res [y]

section
variable {P : Program} {n : Nat} {S : Store} {fr : Nat → T} {ops : Array Oper} {d : Nat} {ty : TypeId} {pos : String} {aft : Array Edge} {rest : List Oper} {K : (Nat → T) → Store → Prop}
/-- A call that is lent the root that its first argument points to. -/
theorem r_call1 {pu pu' : Dr} {gd : Option (Nat × Bool)} {f : FuncId} {a0 : Operand} {args : List Operand} {tys : Array TypeId} {r : Nat} {ts2 : List T} {pre : Prop} {res2 res : T} {x y : Root} {S' : Store} (h : wpOpsT P ops n pu' rest K (upd fr d res) S')
    (hw : wantedT ops fr ⟨some d, .call ⟨.value (.func f), (a0 :: args).toArray, tys⟩, ty, pos, aft, gd⟩ = some true := by rfl) (_h0 : TL.ev fr a0 = .ptr r [] 0 := by (first | (simp only [go_sem, ↓reduceIte, Nat.reduceEqDiff, Nat.reduceMul, Nat.reduceAdd, Nat.reduceSub, Nat.reduceLT, Nat.reduceGT, Nat.reduceLeDiff, Nat.reduceBEq, Int.reduceLT, Int.reduceLE, Int.reduceNe, Int.reduceEq, Int.reduceToNat, Int.reduceAdd, Int.reduceSub, Int.reduceMul, Int.reduceNeg, Nat.reducePow, Int.reducePow, Nat.reduceSubDiff, decide_true, decide_false, reduceCtorEq, or_self, or_false, false_or, or_true, true_or, if_false, gt_iff_lt, ge_iff_le, ne_eq, not_true_eq_false, not_false_eq_true, and_self, beq_self_eq_true, Bool.false_eq_true] <;> with_reducible rfl) | with_reducible rfl)) (hx : S[r]? = some x := by rfl)
    (ha : lendTs false S [r] 1 ((a0 :: args).map (TL.ev fr)) = some ts2 := by (simp only [go_sem, ↓reduceIte, Nat.reduceEqDiff, Nat.reduceMul, Nat.reduceAdd, Nat.reduceSub, Nat.reduceLT, Nat.reduceGT, Nat.reduceLeDiff, Nat.reduceBEq, Int.reduceLT, Int.reduceLE, Int.reduceNe, Int.reduceEq, Int.reduceToNat, Int.reduceAdd, Int.reduceSub, Int.reduceMul, Int.reduceNeg, Nat.reducePow, Int.reducePow, Nat.reduceSubDiff, decide_true, decide_false, reduceCtorEq, or_self, or_false, false_or, or_true, true_or, if_false, gt_iff_lt, ge_iff_le, ne_eq, not_true_eq_false, not_false_eq_true, and_self, beq_self_eq_true, Bool.false_eq_true]; with_reducible rfl)) (c : Con1 P x f ts2 pre res2 y := by infer_instance) (hpre : pre := by (first | exact True.intro | omega | (simp only [cat1_len, lit2_len, List.length_replicate, List.length_append, List.length_cons, List.length_nil, List.length_take, List.length_drop, List.length_map, List.length_set]; omega) | assumption | ((repeat' (with_reducible refine And.intro ?_ ?_)) <;> first | exact True.intro | omega | (simp only [cat1_len, lit2_len, List.length_replicate, List.length_append, List.length_cons, List.length_nil, List.length_take, List.length_drop, List.length_map, List.length_set]; omega) | assumption)))
    (hn : gcTs [r] x.cs = x.cs := by first | rfl | (simp only [go_sem, ↓reduceIte, Nat.reduceEqDiff, Nat.reduceMul, Nat.reduceAdd, Nat.reduceSub, Nat.reduceLT, Nat.reduceGT, Nat.reduceLeDiff, Nat.reduceBEq, Int.reduceLT, Int.reduceLE, Int.reduceNe, Int.reduceEq, Int.reduceToNat, Int.reduceAdd, Int.reduceSub, Int.reduceMul, Int.reduceNeg, Nat.reducePow, Int.reducePow, Nat.reduceSubDiff, decide_true, decide_false, reduceCtorEq, or_self, or_false, false_or, or_true, true_or, if_false, gt_iff_lt, ge_iff_le, ne_eq, not_true_eq_false, not_false_eq_true, and_self, beq_self_eq_true, Bool.false_eq_true]; done)) (hr : allT (leafFree 1) res2 = true := by (first | (simp only [go_sem, ↓reduceIte, Nat.reduceEqDiff, Nat.reduceMul, Nat.reduceAdd, Nat.reduceSub, Nat.reduceLT, Nat.reduceGT, Nat.reduceLeDiff, Nat.reduceBEq, Int.reduceLT, Int.reduceLE, Int.reduceNe, Int.reduceEq, Int.reduceToNat, Int.reduceAdd, Int.reduceSub, Int.reduceMul, Int.reduceNeg, Nat.reducePow, Int.reducePow, Nat.reduceSubDiff, decide_true, decide_false, reduceCtorEq, or_self, or_false, false_or, or_true, true_or, if_false, gt_iff_lt, ge_iff_le, ne_eq, not_true_eq_false, not_false_eq_true, and_self, beq_self_eq_true, Bool.false_eq_true] <;> with_reducible rfl) | with_reducible rfl)) (hf : freeS 1 [y] = true := by rfl)
    (hres : ren (backId [r] S.length) res2 = res := by (first | (simp only [go_sem, ↓reduceIte, Nat.reduceEqDiff, Nat.reduceMul, Nat.reduceAdd, Nat.reduceSub, Nat.reduceLT, Nat.reduceGT, Nat.reduceLeDiff, Nat.reduceBEq, Int.reduceLT, Int.reduceLE, Int.reduceNe, Int.reduceEq, Int.reduceToNat, Int.reduceAdd, Int.reduceSub, Int.reduceMul, Int.reduceNeg, Nat.reducePow, Int.reducePow, Nat.reduceSubDiff, decide_true, decide_false, reduceCtorEq, or_self, or_false, false_or, or_true, true_or, if_false, gt_iff_lt, ge_iff_le, ne_eq, not_true_eq_false, not_false_eq_true, and_self, beq_self_eq_true, Bool.false_eq_true] <;> with_reducible rfl) | with_reducible rfl)) (hS : S.set r (Root.ren (backId [r] S.length) y) = S' := by (first | exact rfl)) (hd : Nat.blt d n = true := by rfl)
    (hp : Dr.step P ops n pu fr S ⟨some d, .call ⟨.value (.func f), (a0 :: args).toArray, tys⟩, ty, pos, aft, gd⟩ res S' pu' := by first | exact Dr.step.txt | exact dr_chain) :
    wpOpsT P ops n pu (⟨some d, .call ⟨.value (.func f), (a0 :: args).toArray, tys⟩, ty, pos, aft, gd⟩ :: rest) K fr S := by
  have hF : FreeS 1 [y] := fun z hz _ => List.all_eq_true.1 hf z hz
  have := (c.ok hpre).frame 1 (by decide) (fits_one hx hn) (.same _) ha hr hF (Nat.le_refl _)
  rw [hres, back_one, hS] at this
  exact r_op (opT_call hw (by simpa [okDst, Nat.blt_eq] using hd) (by simp [calleeT, TL.ev]) this) hp h
end
theorem keep_one (x : Root) : ∀ i, i < [x].length → ([0] : List Nat)[i]? = some i := fun i hi => by
  obtain rfl : i = 0 := by simpa using hi
  rfl
end Go.TL
