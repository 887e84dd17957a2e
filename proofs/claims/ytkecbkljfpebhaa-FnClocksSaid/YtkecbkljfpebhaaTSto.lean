/- Stores into rows. No conditions. -/
import Derived.Test.YtkecbkljfpebhaaTGo3
namespace Go.TL
set_option linter.unusedSimpArgs false
open Go.RowKit

theorem setR_app {α : Type} (a : List α) : ∀ (ts b : List α) (j : Nat), setR (a ++ b) (a.length + j) ts = a ++ setR b j ts
  | [], _, _ => rfl
  | t :: ts, b, j => by
    rw [setR, setR, List.set_append_right _ _ (by omega), show a.length + j - a.length = j by omega, Nat.add_assoc, setR_app a ts]
theorem setR_0 {α : Type} (b : List α) : ∀ (ts p a : List α), ts.length = a.length → setR (p ++ (a ++ b)) p.length ts = p ++ (ts ++ b)
  | [], p, a, h => by
    rw [List.eq_nil_of_length_eq_zero (l := a) (by simpa using h.symm)]; rfl
  | t :: ts, p, a, h => by
    cases a with
    | nil => simp at h
    | cons y a =>
      rw [setR, List.set_append_right _ _ (Nat.le_refl _), Nat.sub_self]
      show setR (p ++ (t :: (a ++ b))) (p.length + 1) ts = _
      have := setR_0 b ts (p ++ [t]) a (by simpa using h)
      rw [List.append_assoc, List.length_append] at this
      simpa using this
theorem setR_row {α : Type} {enc : α → List T} {sz : Nat} [he : RowE enc sz] (x : α) : ∀ (l : List α) (i : Nat), i < l.length → setR (rowT enc l) (i * sz) (enc x) = rowT enc (l.set i x)
  | [], i, h => by simp at h
  | y :: l, 0, _ => by
    rw [Nat.zero_mul, rowT_cons, List.set_cons_zero, rowT_cons]
    have := setR_0 (rowT enc l) (enc x) [] (enc y) (by rw [he.e.len, he.e.len])
    simpa using this
  | y :: l, i + 1, h => by
    rw [rowT_cons, List.set_cons_succ, rowT_cons, Nat.succ_mul, Nat.add_comm (i * sz) sz]
    have := setR_app (enc y) (enc x) (rowT enc l) (i * sz)
    rw [he.e.len] at this
    rw [this, setR_row x l i (by simpa using h)]

section
variable {P : Program} {n : Nat} {S S2 : Store} {fr : Nat → T} {ops : Array Oper} {ty : TypeId} {pos : String} {aft : Array Edge} {rest : List Oper} {K : (Nat → T) → Store → Prop} {t : TypeId} {x y : Operand} {α : Type} {enc : α → List T} {sz : Nat}
/-- A store into a row of one's own. -/
theorem r_sto {pu pu' : Dr} {gd : Option (Nat × Bool)} [he : RowE enc sz] (l : List α) (i : Nat) (a : α) {r off : Nat} (h : wpOpsT P ops n pu' rest K fr S2)
    (hw : wantedT ops fr ⟨none, .store t x y, ty, pos, aft, gd⟩ = some true := by rfl) (hc : calleeT fr ⟨none, .store t x y, ty, pos, aft, gd⟩ = none := by rfl)
    (hx : TL.ev fr x = .ptr r [] off := by (first | (simp only [go_sem, ↓reduceIte, Nat.reduceEqDiff, Nat.reduceMul, Nat.reduceAdd, Nat.reduceSub, Nat.reduceLT, Nat.reduceGT, Nat.reduceLeDiff, Nat.reduceBEq, Int.reduceLT, Int.reduceLE, Int.reduceNe, Int.reduceEq, Int.reduceToNat, Int.reduceAdd, Int.reduceSub, Int.reduceMul, Int.reduceNeg, Nat.reducePow, Int.reducePow, Nat.reduceSubDiff, decide_true, decide_false, reduceCtorEq, or_self, or_false, false_or, or_true, true_or, if_false, gt_iff_lt, ge_iff_le, ne_eq, not_true_eq_false, not_false_eq_true, and_self, beq_self_eq_true, Bool.false_eq_true] <;> with_reducible rfl) | with_reducible rfl)) (ho : off = i * sz := by first | rfl | omega | (simp only [cat1_len, lit2_len, List.length_replicate, List.length_append, List.length_cons, List.length_nil, List.length_take, List.length_drop, List.length_map, List.length_set]; omega))
    (hat : S.at false r [] = some (sz, rowT enc l) := by (first | (simp only [go_sem, ↓reduceIte, Nat.reduceEqDiff, Nat.reduceMul, Nat.reduceAdd, Nat.reduceSub, Nat.reduceLT, Nat.reduceGT, Nat.reduceLeDiff, Nat.reduceBEq, Int.reduceLT, Int.reduceLE, Int.reduceNe, Int.reduceEq, Int.reduceToNat, Int.reduceAdd, Int.reduceSub, Int.reduceMul, Int.reduceNeg, Nat.reducePow, Int.reducePow, Nat.reduceSubDiff, decide_true, decide_false, reduceCtorEq, or_self, or_false, false_or, or_true, true_or, if_false, gt_iff_lt, ge_iff_le, ne_eq, not_true_eq_false, not_false_eq_true, and_self, beq_self_eq_true, Bool.false_eq_true] <;> with_reducible rfl) | with_reducible rfl))
    (hy : compsT (TL.ev fr y) = enc a := by (first | (simp only [go_sem, ↓reduceIte, Nat.reduceEqDiff, Nat.reduceMul, Nat.reduceAdd, Nat.reduceSub, Nat.reduceLT, Nat.reduceGT, Nat.reduceLeDiff, Nat.reduceBEq, Int.reduceLT, Int.reduceLE, Int.reduceNe, Int.reduceEq, Int.reduceToNat, Int.reduceAdd, Int.reduceSub, Int.reduceMul, Int.reduceNeg, Nat.reducePow, Int.reducePow, Nat.reduceSubDiff, decide_true, decide_false, reduceCtorEq, or_self, or_false, false_or, or_true, true_or, if_false, gt_iff_lt, ge_iff_le, ne_eq, not_true_eq_false, not_false_eq_true, and_self, beq_self_eq_true, Bool.false_eq_true] <;> with_reducible rfl) | with_reducible rfl)) (hok : storable S (enc a) = true := by (first | (simp only [go_sem, ↓reduceIte, Nat.reduceEqDiff, Nat.reduceMul, Nat.reduceAdd, Nat.reduceSub, Nat.reduceLT, Nat.reduceGT, Nat.reduceLeDiff, Nat.reduceBEq, Int.reduceLT, Int.reduceLE, Int.reduceNe, Int.reduceEq, Int.reduceToNat, Int.reduceAdd, Int.reduceSub, Int.reduceMul, Int.reduceNeg, Nat.reducePow, Int.reducePow, Nat.reduceSubDiff, decide_true, decide_false, reduceCtorEq, or_self, or_false, false_or, or_true, true_or, if_false, gt_iff_lt, ge_iff_le, ne_eq, not_true_eq_false, not_false_eq_true, and_self, beq_self_eq_true, Bool.false_eq_true] <;> with_reducible rfl) | with_reducible rfl)) (hz : szT P t = some sz := by (first | (simp only [go_sem, ↓reduceIte, Nat.reduceEqDiff, Nat.reduceMul, Nat.reduceAdd, Nat.reduceSub, Nat.reduceLT, Nat.reduceGT, Nat.reduceLeDiff, Nat.reduceBEq, Int.reduceLT, Int.reduceLE, Int.reduceNe, Int.reduceEq, Int.reduceToNat, Int.reduceAdd, Int.reduceSub, Int.reduceMul, Int.reduceNeg, Nat.reducePow, Int.reducePow, Nat.reduceSubDiff, decide_true, decide_false, reduceCtorEq, or_self, or_false, false_or, or_true, true_or, if_false, gt_iff_lt, ge_iff_le, ne_eq, not_true_eq_false, not_false_eq_true, and_self, beq_self_eq_true, Bool.false_eq_true] <;> with_reducible rfl) | with_reducible rfl))
    (hS : S.upd r [] (fun _ => rowT enc (l.set i a)) = S2 := by (first | (simp only [go_sem, ↓reduceIte, Nat.reduceEqDiff, Nat.reduceMul, Nat.reduceAdd, Nat.reduceSub, Nat.reduceLT, Nat.reduceGT, Nat.reduceLeDiff, Nat.reduceBEq, Int.reduceLT, Int.reduceLE, Int.reduceNe, Int.reduceEq, Int.reduceToNat, Int.reduceAdd, Int.reduceSub, Int.reduceMul, Int.reduceNeg, Nat.reducePow, Int.reducePow, Nat.reduceSubDiff, decide_true, decide_false, reduceCtorEq, or_self, or_false, false_or, or_true, true_or, if_false, gt_iff_lt, ge_iff_le, ne_eq, not_true_eq_false, not_false_eq_true, and_self, beq_self_eq_true, Bool.false_eq_true] <;> with_reducible rfl) | with_reducible rfl))
    (hi : i < l.length := by first | omega | (simp only [cat1_len, lit2_len, List.length_replicate, List.length_append, List.length_cons, List.length_nil, List.length_take, List.length_drop, List.length_map, List.length_set]; omega))
    (hp : Dr.step P ops n pu fr S ⟨none, .store t x y, ty, pos, aft, gd⟩ .dead S2 pu' := by first | exact Dr.step.txt | exact dr_chain) :
    wpOpsT P ops n pu (⟨none, .store t x y, ty, pos, aft, gd⟩ :: rest) K fr S := by
  refine r_op (opT_do hw rfl hc (t := .dead) (S' := S2) ?_) hp h
  rw [s_store, hx]
  unfold storeT
  have hlen : (enc a).length = sz := he.e.len a
  have hle : (i + 1) * sz ≤ l.length * sz := Nat.mul_le_mul_right _ hi
  rw [Nat.succ_mul] at hle
  simp only [hat, hz, hy]
  rw [if_pos ⟨hlen.symm, by rw [ho, len_row]; exact hle, hok⟩, ← hS, Option.map_some]
  congr 2
  unfold Store.at at hat
  unfold Store.upd
  cases hr : S[r]? with
  | none => simp [hr] at hat
  | some z =>
    rw [hr] at hat
    dsimp only at hat ⊢
    split at hat
    · simp only [cellsAt, Option.some.injEq, Prod.mk.injEq] at hat
      congr 2
      simp only [updAt]
      rw [hat.2, ho, setR_row a l i hi]
    · cases hat
end

/-! ### Rows that are weakened -/
theorem Wks.app : ∀ {a b c d : List T}, Wks a b → Wks c d → Wks (a ++ c) (b ++ d)
  | _, _, _, _, .nil, h => h
  | _, _, _, _, .same [], h => h
  | _, _, _, _, .same (_ :: ts), h => .cons (.refl _) ((Wks.same ts).app h)
  | _, _, _, _, .cons k ks, h => .cons k (ks.app h)
theorem Wks.row {α β : Type} {e1 : α → List T} {e2 : β → List T} (f : α → β) (h : ∀ x, Wks (e1 x) (e2 (f x))) : ∀ l : List α, Wks (rowT e1 l) (rowT e2 (l.map f))
  | [] => .nil
  | x :: l => by rw [rowT_cons, List.map_cons, rowT_cons]; exact (h x).app (Wks.row f h l)

/-- The first of one row and the last of another. -/
theorem set_mix {α : Type} [Inhabited α] {l z : List α} {i : Nat} (h : i < l.length) (hz : z.length = l.length) : (l.take i ++ z.drop i).set i (nth l i) = l.take (i + 1) ++ z.drop (i + 1) := by
  rw [nth_nat h, List.set_append_right _ _ (by rw [List.length_take]; omega), List.length_take, show i - min i l.length = 0 by omega, List.take_succ_eq_append_getElem h, List.append_assoc]
  congr 1
  rw [List.drop_eq_getElem_cons (by omega), List.set_cons_zero]; rfl
theorem mix_length {α : Type} {l z : List α} {i : Nat} (h : i ≤ l.length) (hz : z.length = l.length) : (l.take i ++ z.drop i).length = l.length := by
  rw [List.length_append, List.length_take, List.length_drop]; omega
end Go.TL
