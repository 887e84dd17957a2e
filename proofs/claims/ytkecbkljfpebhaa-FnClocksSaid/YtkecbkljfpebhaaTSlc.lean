/- Cuts of rows at places; stores into arrays of one's own. No conditions. -/
import Derived.Test.YtkecbkljfpebhaaTClo
namespace Go.TL
set_option linter.unusedSimpArgs false
open Go.RowKit

section
variable {α : Type} {enc : α → List T} {sz : Nat}
theorem drop_row [h : RowE enc sz] : ∀ (l : List α) (i : Nat), (rowT enc l).drop (i * sz) = rowT enc (l.drop i)
  | l, 0 => by rw [Nat.zero_mul, List.drop_zero, List.drop_zero]
  | [], i + 1 => by rw [List.drop_nil]; exact List.drop_nil
  | x :: l, i + 1 => by
    have e1 : (enc x ++ rowT enc l).drop sz = rowT enc l := by rw [List.drop_append_of_le_length (by rw [h.e.len]; exact Nat.le_refl _), List.drop_of_length_le (by rw [h.e.len]; exact Nat.le_refl _), List.nil_append]
    rw [rowT_cons, List.drop_succ_cons, Nat.succ_mul, Nat.add_comm (i * sz) sz, ← List.drop_drop, e1, drop_row l i]
theorem taken_row [h : RowE enc sz] : ∀ (l : List α) (i : Nat), (rowT enc l).take (i * sz) = rowT enc (l.take i)
  | l, 0 => by rw [Nat.zero_mul, List.take_zero, List.take_zero]; rfl
  | [], i + 1 => by rw [List.take_nil]; exact List.take_nil
  | x :: l, i + 1 => by
    rw [rowT_cons, List.take_succ_cons, rowT_cons, Nat.succ_mul, Nat.add_comm (i * sz) sz, List.take_append, List.take_of_length_le (by rw [h.e.len]; omega), h.e.len, Nat.add_sub_cancel_left, taken_row l i]

/-- What lies from a place to a place. -/
def cutL (l : List α) (lo hi : Int) : List α := (l.drop lo.toNat).take (hi.toNat - lo.toNat)
theorem cutL_len (l : List α) {lo hi : Int} (h : 0 ≤ lo ∧ lo ≤ hi ∧ hi ≤ (l.length : Int)) : ((cutL l lo hi).length : Int) = hi - lo := by
  unfold cutL
  rw [List.length_take, List.length_drop]
  omega
@[go_sem high] theorem slice_cut {P : Program} {S : Store} [RowE enc sz] (t : TypeId) (k : Nat) (l : List α) (q q2 : IntKind) {lo hi : Int} (h : 0 ≤ lo ∧ lo ≤ hi ∧ hi ≤ (l.length : Int)) : sliceT P S t (.sl false k l.length sz (rowT enc l)) (some (.v (.int q lo))) (some (.v (.int q2 hi))) = (match elemT P t with
    | some e => match szT P e with
      | some z => if sz = z then some (.sl false k (cutL l lo hi).length sz (rowT enc (cutL l lo hi))) else none
      | none => none
    | none => none) := by
  rw [slice_row]
  have e1 : (cutL l lo hi).length = hi.toNat - lo.toNat := by have := cutL_len l h; omega
  simp only [boundsT, intT, if_pos h, Option.map_some, drop_row, taken_row, e1]
  rfl
@[go_sem high] theorem slice_take {P : Program} {S : Store} [RowE enc sz] (t : TypeId) (k : Nat) (l : List α) (q : IntKind) {hi : Int} (h : 0 ≤ hi ∧ hi ≤ (l.length : Int)) : sliceT P S t (.sl false k l.length sz (rowT enc l)) none (some (.v (.int q hi))) = (match elemT P t with
    | some e => match szT P e with
      | some z => if sz = z then some (.sl false k (l.take hi.toNat).length sz (rowT enc (l.take hi.toNat))) else none
      | none => none
    | none => none) := by
  rw [slice_row]
  have e1 : (l.take hi.toNat).length = hi.toNat := by rw [List.length_take]; omega
  simp only [boundsT, intT, if_pos (show 0 ≤ (0 : Int) ∧ 0 ≤ hi ∧ hi ≤ (l.length : Int) by omega), Option.map_some, Int.toNat_zero, Nat.zero_mul, List.drop_zero, Nat.sub_zero, taken_row, e1]
  rfl
@[go_sem high] theorem slice_from {P : Program} {S : Store} [RowE enc sz] (t : TypeId) (k : Nat) (l : List α) (q : IntKind) {lo : Int} (h : 0 ≤ lo ∧ lo ≤ (l.length : Int)) : sliceT P S t (.sl false k l.length sz (rowT enc l)) (some (.v (.int q lo))) none = (match elemT P t with
    | some e => match szT P e with
      | some z => if sz = z then some (.sl false k (l.drop lo.toNat).length sz (rowT enc (l.drop lo.toNat))) else none
      | none => none
    | none => none) := by
  rw [slice_row]
  have e1 : (l.drop lo.toNat).length = l.length - lo.toNat := by rw [List.length_drop]
  have e2 : (rowT enc (l.drop lo.toNat)).take ((l.length - lo.toNat) * sz) = rowT enc (l.drop lo.toNat) := List.take_of_length_le (by rw [len_row, e1]; exact Nat.le_refl _)
  simp only [boundsT, intT, if_pos (show 0 ≤ lo ∧ lo ≤ (l.length : Int) ∧ (l.length : Int) ≤ l.length by omega), Option.map_some, Int.toNat_natCast, drop_row, e1, e2]
  rfl
@[go_sem high] theorem str_cut {P : Program} {S : Store} (t : TypeId) (s : ByteArray) (q q2 : IntKind) {lo hi : Int} (h : 0 ≤ lo ∧ lo ≤ hi ∧ hi ≤ (s.size : Int)) : sliceT P S t (.v (.string s)) (some (.v (.int q lo))) (some (.v (.int q2 hi))) = (match P.underlying t with
    | some .string => some (.v (.string (s.extract lo.toNat hi.toNat)))
    | _ => none) := by
  simp only [sliceT, boundsT, intT, if_pos h, Option.map_some]; rfl
@[go_sem high] theorem str_take {P : Program} {S : Store} (t : TypeId) (s : ByteArray) (q : IntKind) {hi : Int} (h : 0 ≤ hi ∧ hi ≤ (s.size : Int)) : sliceT P S t (.v (.string s)) none (some (.v (.int q hi))) = (match P.underlying t with
    | some .string => some (.v (.string (s.extract 0 hi.toNat)))
    | _ => none) := by
  simp only [sliceT, boundsT, intT, if_pos (show 0 ≤ (0 : Int) ∧ 0 ≤ hi ∧ hi ≤ (s.size : Int) by omega), Option.map_some]; rfl
@[go_sem high] theorem str_from {P : Program} {S : Store} (t : TypeId) (s : ByteArray) (q : IntKind) {lo : Int} (h : 0 ≤ lo ∧ lo ≤ (s.size : Int)) : sliceT P S t (.v (.string s)) (some (.v (.int q lo))) none = (match P.underlying t with
    | some .string => some (.v (.string (s.extract lo.toNat s.size)))
    | _ => none) := by
  simp only [sliceT, boundsT, intT, if_pos (show 0 ≤ lo ∧ lo ≤ (s.size : Int) ∧ (s.size : Int) ≤ s.size by omega), Option.map_some, Int.toNat_natCast]; rfl
theorem nth_cut [Inhabited α] {l : List α} {lo hi : Int} (h : 0 ≤ lo ∧ lo ≤ hi ∧ hi ≤ (l.length : Int)) {i : Int} (hi2 : 0 ≤ i ∧ i < hi - lo) : nth (cutL l lo hi) i = nth l (lo + i) := by
  unfold nth cutL
  rw [List.getD_eq_getElem?_getD, List.getD_eq_getElem?_getD, List.getElem?_take_of_lt (by omega), List.getElem?_drop, show lo.toNat + i.toNat = (lo + i).toNat by omega]
end

section
variable {P : Program} {n : Nat} {S S2 : Store} {fr : Nat → T} {ops : Array Oper} {ty : TypeId} {pos : String} {aft : Array Edge} {rest : List Oper} {K : (Nat → T) → Store → Prop} {t : TypeId} {x y : Operand} {α : Type} {enc : α → List T} {sz : Nat}
/-- A store into a row or an array of one's own. -/
theorem r_sta {pu pu' : Dr} {gd : Option (Nat × Bool)} [he : RowE enc sz] (l : List α) (i : Nat) (a : α) {r off e0 : Nat} (h : wpOpsT P ops n pu' rest K fr S2)
    (hw : wantedT ops fr ⟨none, .store t x y, ty, pos, aft, gd⟩ = some true := by rfl) (hc : calleeT fr ⟨none, .store t x y, ty, pos, aft, gd⟩ = none := by rfl)
    (hx : TL.ev fr x = .ptr r [] off := by (first | (simp only [go_sem, ↓reduceIte, Nat.reduceEqDiff, Nat.reduceMul, Nat.reduceAdd, Nat.reduceSub, Nat.reduceLT, Nat.reduceGT, Nat.reduceLeDiff, Nat.reduceBEq, Int.reduceLT, Int.reduceLE, Int.reduceNe, Int.reduceEq, Int.reduceToNat, Int.reduceAdd, Int.reduceSub, Int.reduceMul, Int.reduceNeg, Nat.reducePow, Int.reducePow, Nat.reduceSubDiff, decide_true, decide_false, reduceCtorEq, or_self, or_false, false_or, or_true, true_or, if_false, gt_iff_lt, ge_iff_le, ne_eq, not_true_eq_false, not_false_eq_true, and_self, beq_self_eq_true, Bool.false_eq_true] <;> with_reducible rfl) | with_reducible rfl)) (ho : off = i * sz := by first | rfl | omega | (simp only [cat1_len, lit2_len, List.length_replicate, List.length_append, List.length_cons, List.length_nil, List.length_take, List.length_drop, List.length_map, List.length_set]; omega))
    (hat : S.at false r [] = some (e0, rowT enc l) := by (first | (simp only [go_sem, ↓reduceIte, Nat.reduceEqDiff, Nat.reduceMul, Nat.reduceAdd, Nat.reduceSub, Nat.reduceLT, Nat.reduceGT, Nat.reduceLeDiff, Nat.reduceBEq, Int.reduceLT, Int.reduceLE, Int.reduceNe, Int.reduceEq, Int.reduceToNat, Int.reduceAdd, Int.reduceSub, Int.reduceMul, Int.reduceNeg, Nat.reducePow, Int.reducePow, Nat.reduceSubDiff, decide_true, decide_false, reduceCtorEq, or_self, or_false, false_or, or_true, true_or, if_false, gt_iff_lt, ge_iff_le, ne_eq, not_true_eq_false, not_false_eq_true, and_self, beq_self_eq_true, Bool.false_eq_true] <;> with_reducible rfl) | with_reducible rfl))
    (hy : compsT (TL.ev fr y) = enc a := by (first | (simp only [go_sem, ↓reduceIte, Nat.reduceEqDiff, Nat.reduceMul, Nat.reduceAdd, Nat.reduceSub, Nat.reduceLT, Nat.reduceGT, Nat.reduceLeDiff, Nat.reduceBEq, Int.reduceLT, Int.reduceLE, Int.reduceNe, Int.reduceEq, Int.reduceToNat, Int.reduceAdd, Int.reduceSub, Int.reduceMul, Int.reduceNeg, Nat.reducePow, Int.reducePow, Nat.reduceSubDiff, decide_true, decide_false, reduceCtorEq, or_self, or_false, false_or, or_true, true_or, if_false, gt_iff_lt, ge_iff_le, ne_eq, not_true_eq_false, not_false_eq_true, and_self, beq_self_eq_true, Bool.false_eq_true] <;> with_reducible rfl) | with_reducible rfl)) (hok : storable S (enc a) = true := by (first | (simp only [go_sem, ↓reduceIte, Nat.reduceEqDiff, Nat.reduceMul, Nat.reduceAdd, Nat.reduceSub, Nat.reduceLT, Nat.reduceGT, Nat.reduceLeDiff, Nat.reduceBEq, Int.reduceLT, Int.reduceLE, Int.reduceNe, Int.reduceEq, Int.reduceToNat, Int.reduceAdd, Int.reduceSub, Int.reduceMul, Int.reduceNeg, Nat.reducePow, Int.reducePow, Nat.reduceSubDiff, decide_true, decide_false, reduceCtorEq, or_self, or_false, false_or, or_true, true_or, if_false, gt_iff_lt, ge_iff_le, ne_eq, not_true_eq_false, not_false_eq_true, and_self, beq_self_eq_true, Bool.false_eq_true] <;> with_reducible rfl) | with_reducible rfl)) (hz : szT P t = some sz := by (first | (simp only [go_sem, ↓reduceIte, Nat.reduceEqDiff, Nat.reduceMul, Nat.reduceAdd, Nat.reduceSub, Nat.reduceLT, Nat.reduceGT, Nat.reduceLeDiff, Nat.reduceBEq, Int.reduceLT, Int.reduceLE, Int.reduceNe, Int.reduceEq, Int.reduceToNat, Int.reduceAdd, Int.reduceSub, Int.reduceMul, Int.reduceNeg, Nat.reducePow, Int.reducePow, Nat.reduceSubDiff, decide_true, decide_false, reduceCtorEq, or_self, or_false, false_or, or_true, true_or, if_false, gt_iff_lt, ge_iff_le, ne_eq, not_true_eq_false, not_false_eq_true, and_self, beq_self_eq_true, Bool.false_eq_true] <;> with_reducible rfl) | with_reducible rfl))
    (hS : S.upd r [] (fun _ => rowT enc (l.set i a)) = S2 := by (first | (simp only [go_sem, ↓reduceIte, Nat.reduceEqDiff, Nat.reduceMul, Nat.reduceAdd, Nat.reduceSub, Nat.reduceLT, Nat.reduceGT, Nat.reduceLeDiff, Nat.reduceBEq, Int.reduceLT, Int.reduceLE, Int.reduceNe, Int.reduceEq, Int.reduceToNat, Int.reduceAdd, Int.reduceSub, Int.reduceMul, Int.reduceNeg, Nat.reducePow, Int.reducePow, Nat.reduceSubDiff, decide_true, decide_false, reduceCtorEq, or_self, or_false, false_or, or_true, true_or, if_false, gt_iff_lt, ge_iff_le, ne_eq, not_true_eq_false, not_false_eq_true, and_self, beq_self_eq_true, Bool.false_eq_true] <;> with_reducible rfl) | with_reducible rfl))
    (hi : i < l.length := by first | omega | (simp only [cat1_len, lit2_len, List.length_replicate, List.length_append, List.length_cons, List.length_nil, List.length_take, List.length_drop, List.length_map, List.length_set]; omega))
    (hp : Dr.step P ops n pu fr S ⟨none, .store t x y, ty, pos, aft, gd⟩ .dead S2 pu' := by first | exact Dr.step.txt | exact dr_chain) :
    wpOpsT P ops n pu (⟨none, .store t x y, ty, pos, aft, gd⟩ :: rest) K fr S := by
  refine r_op (opT_do hw rfl hc (t := .dead) (S' := S2) ?_) hp h
  rw [s_store, hx]
  unfold storeT
  have hlen : (enc a).length = sz := he.e.len a
  have hle : (i + 1) * sz ≤ l.length * sz := Nat.mul_le_mul_right _ hi
  rw [Nat.succ_mul] at hle
  simp only [hat, hz, hy]
  rw [if_pos ⟨hlen.symm, by rw [ho, len_row]; exact hle, hok⟩, ← hS, Option.map_some]
  congr 2
  unfold Store.at at hat
  unfold Store.upd
  cases hr : S[r]? with
  | none => simp [hr] at hat
  | some z =>
    rw [hr] at hat
    dsimp only at hat ⊢
    split at hat
    · simp only [cellsAt, Option.some.injEq, Prod.mk.injEq] at hat
      congr 2
      simp only [updAt]
      rw [hat.2, ho, setR_row a l i hi]
    · cases hat
end
end Go.TL
