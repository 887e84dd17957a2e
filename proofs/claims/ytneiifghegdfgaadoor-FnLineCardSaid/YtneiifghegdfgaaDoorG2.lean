/- What is drawn: a new cursor, one of a row. No conditions but those that are written. -/
import Derived.Test.YtneiifghegdfgaaDoorG1
namespace Go.TL
set_option linter.unusedSimpArgs false
open Go.Proofs Go.RowKit
attribute [local irreducible] wpOpsT wpT EndT Ex.seq Ex.block W

section
variable {P : Program} {n : Nat} {S : Store} {fr : Nat → T} {ops : Array Oper} {d : Nat} {ty : TypeId} {pos : String} {aft : Array Edge} {rest : List Oper} {K : (Nat → T) → Store → Prop}
/-- A call that is lent one root, its contract given. -/
theorem r_call1p {pu pu' : Dr} {gd : Option (Nat × Bool)} {f : FuncId} {args : List Operand} {tys : Array TypeId} {ts2 : List T} {res2 res : T} {x y : Root} {S' : Store} (r : Nat) (hs : CallsT P [x] f ts2 res2 [y]) (h : wpOpsT P ops n pu' rest K (upd fr d res) S')
    (hw : wantedT ops fr ⟨some d, .call ⟨.value (.func f), args.toArray, tys⟩, ty, pos, aft, gd⟩ = some true := by rfl) (hx : S[r]? = some x := by rfl)
    (ha : lendTs false S [r] 1 (args.map (TL.ev fr)) = some ts2 := by rfl)
    (hn : gcTs [r] x.cs = x.cs := by first | rfl | (simp only [go_sem, ↓reduceIte, Nat.reduceEqDiff, Nat.reduceMul, Nat.reduceAdd, Nat.reduceSub, Nat.reduceLT, Nat.reduceGT, Nat.reduceLeDiff, Nat.reduceBEq, Int.reduceLT, Int.reduceLE, Int.reduceNe, Int.reduceEq, Int.reduceToNat, Int.reduceAdd, Int.reduceSub, Int.reduceMul, Int.reduceNeg, Nat.reducePow, Int.reducePow, Nat.reduceSubDiff, decide_true, decide_false, reduceCtorEq, or_self, or_false, false_or, or_true, true_or, if_false, gt_iff_lt, ge_iff_le, ne_eq, not_true_eq_false, not_false_eq_true, and_self, beq_self_eq_true, Bool.false_eq_true]; done)) (hr : allT (leafFree 1) res2 = true := by (first | (simp only [go_sem, ↓reduceIte, Nat.reduceEqDiff, Nat.reduceMul, Nat.reduceAdd, Nat.reduceSub, Nat.reduceLT, Nat.reduceGT, Nat.reduceLeDiff, Nat.reduceBEq, Int.reduceLT, Int.reduceLE, Int.reduceNe, Int.reduceEq, Int.reduceToNat, Int.reduceAdd, Int.reduceSub, Int.reduceMul, Int.reduceNeg, Nat.reducePow, Int.reducePow, Nat.reduceSubDiff, decide_true, decide_false, reduceCtorEq, or_self, or_false, false_or, or_true, true_or, if_false, gt_iff_lt, ge_iff_le, ne_eq, not_true_eq_false, not_false_eq_true, and_self, beq_self_eq_true, Bool.false_eq_true] <;> with_reducible rfl) | with_reducible rfl)) (hf : freeS 1 [y] = true := by rfl)
    (hres : ren (backId [r] S.length) res2 = res := by (first | (simp only [go_sem, ↓reduceIte, Nat.reduceEqDiff, Nat.reduceMul, Nat.reduceAdd, Nat.reduceSub, Nat.reduceLT, Nat.reduceGT, Nat.reduceLeDiff, Nat.reduceBEq, Int.reduceLT, Int.reduceLE, Int.reduceNe, Int.reduceEq, Int.reduceToNat, Int.reduceAdd, Int.reduceSub, Int.reduceMul, Int.reduceNeg, Nat.reducePow, Int.reducePow, Nat.reduceSubDiff, decide_true, decide_false, reduceCtorEq, or_self, or_false, false_or, or_true, true_or, if_false, gt_iff_lt, ge_iff_le, ne_eq, not_true_eq_false, not_false_eq_true, and_self, beq_self_eq_true, Bool.false_eq_true] <;> with_reducible rfl) | with_reducible rfl)) (hS : S.set r (Root.ren (backId [r] S.length) y) = S' := by (first | exact rfl)) (hd : Nat.blt d n = true := by rfl)
    (hp : Dr.step P ops n pu fr S ⟨some d, .call ⟨.value (.func f), args.toArray, tys⟩, ty, pos, aft, gd⟩ res S' pu' := by first | exact Dr.step.txt | exact dr_chain) :
    wpOpsT P ops n pu (⟨some d, .call ⟨.value (.func f), args.toArray, tys⟩, ty, pos, aft, gd⟩ :: rest) K fr S := by
  have hF : FreeS 1 [y] := fun z hz _ => List.all_eq_true.1 hf z hz
  have := hs.frame 1 (by decide) (fits_one hx hn) (.same _) ha hr hF (Nat.le_refl _)
  rw [hres, back_one, hS] at this
  exact r_op (opT_call hw (by simpa [okDst, Nat.blt_eq] using hd) (by simp [calleeT, TL.ev]) this) hp h
end

def newS (l : List Int) : Nat → Int
  | 0 => 10677 + l.length
  | i + 1 => (newS l i * 131 + nth l (i : Nat) + 7) % 1073741824
def newN (l : List Int) : Nat := min l.length 4000
theorem newS_b (l : List Int) (hl : l.length ≤ 140737488351232) : ∀ i, 0 ≤ newS l i ∧ newS l i ≤ 140737488361909
  | 0 => by unfold newS; omega
  | i + 1 => by unfold newS; omega
theorem and30 {x : Int} (h : 0 ≤ x ∧ x < 9223372036854775808) : and64 x 1073741823 = x % 1073741824 := and64_mask 30 (by decide) x h.1 (by omega) 1073741823 rfl
attribute [local go_sem] and30

set_option maxHeartbeats 4000000 in
theorem spec_l1New (l : List Int) (hpre : (∀ x ∈ l, 0 ≤ x ∧ x < 256) ∧ l.length ≤ 140737488351232) : CallsT Tryd.prog [] F.spec_l1New [.sl false 0 l.length 1 (rowT u8C l)] (.ptr 0 [] 0) [⟨0, true, [.sl false 0 l.length 1 (rowT u8C l), .v (.int .i64 0), .v (.int .i64 (newS l (newN l)))]⟩] := by
  refine fnT C.spec_l1New ?_
  obtain ⟨hb, hl⟩ := hpre
  refine run ?_
  refine r_for (newN l) (fun i => [(0, .sl false 0 l.length 1 (rowT u8C l)), (3, .v (.int .i64 (newS l i))), (4, .v (.int .i64 i))]) (fun _ => []) (fun _ => True) [] [] trivial Gc.of (fun i hi _ => ?_) (fun _ => ?_)
  · have hs := newS_b l hl i
    have hi1 : i < l.length := by unfold newN at hi; omega
    have hi2 : i < 4000 := by unfold newN at hi; omega
    have hn := hb _ (nth_mem hi1)
    refine run ?_
    exact ⟨[], [], Gc.of, trivial⟩
  · have hx : ¬ (((newN l : Nat) : Int) < l.length ∧ ((newN l : Nat) : Int) < 4000) := by unfold newN; omega
    refine run ?_
    exact r_end [0] []
instance (l : List Int) : Con Tryd.prog F.spec_l1New [.sl false 0 l.length 1 (rowT u8C l)] ((∀ x ∈ l, 0 ≤ x ∧ x < 256) ∧ l.length ≤ 140737488351232) (.ptr 0 [] 0) [⟨0, true, [.sl false 0 l.length 1 (rowT u8C l), .v (.int .i64 0), .v (.int .i64 (newS l (newN l)))]⟩] := ⟨fun h => spec_l1New l h⟩

/-- One of a row of ints. -/
theorem spec_l1PickInt (l : List Int) (pos st : Int) (k : Nat) (m : List Int) (hpre : curP l pos ∧ 0 < m.length ∧ m.length ≤ 1000000000) : CallsT Tryd.prog [⟨0, true, [.sl false 0 l.length 1 (rowT u8C l), .v (.int .i64 pos), .v (.int .i64 st)]⟩] F.spec_l1PickInt [.ptr 0 [] 0, .sl false k m.length 1 (rowT i64C m)] (.v (.int .i64 (nth m (belowV m.length l pos st)))) [⟨0, true, [.sl false 0 l.length 1 (rowT u8C l), .v (.int .i64 (belowN m.length l pos)), .v (.int .i64 (belowS m.length st))]⟩] := by
  obtain ⟨hc, h0, h1⟩ := hpre
  have hb := below_b (n := m.length) (by omega) l pos st
  refine fnT C.spec_l1PickInt ?_
  refine runC ?_
  refine r_call1 ?_
  refine run ?_
  exact r_end [0] [] (hm := keep_one _)
/-- One of a row of texts. -/
theorem spec_l1Pick (l : List Int) (pos st : Int) (k : Nat) (m : List ByteArray) (hpre : curP l pos ∧ 0 < m.length ∧ m.length ≤ 1000000000) : CallsT Tryd.prog [⟨0, true, [.sl false 0 l.length 1 (rowT u8C l), .v (.int .i64 pos), .v (.int .i64 st)]⟩] F.spec_l1Pick [.ptr 0 [] 0, .sl false k m.length 1 (rowT strC m)] (.v (.string (nth m (belowV m.length l pos st)))) [⟨0, true, [.sl false 0 l.length 1 (rowT u8C l), .v (.int .i64 (belowN m.length l pos)), .v (.int .i64 (belowS m.length st))]⟩] := by
  obtain ⟨hc, h0, h1⟩ := hpre
  have hb := below_b (n := m.length) (by omega) l pos st
  refine fnT C.spec_l1Pick ?_
  refine runC ?_
  refine r_call1 ?_
  refine run ?_
  exact r_end [0] [] (hm := keep_one _)
instance (l : List Int) (pos st : Int) (k : Nat) (m : List Int) : Con1 Tryd.prog ⟨0, true, [.sl false 0 l.length 1 (rowT u8C l), .v (.int .i64 pos), .v (.int .i64 st)]⟩ F.spec_l1PickInt [.ptr 0 [] 0, .sl false k m.length 1 (rowT i64C m)] (curP l pos ∧ 0 < m.length ∧ m.length ≤ 1000000000) (.v (.int .i64 (nth m (belowV m.length l pos st)))) ⟨0, true, [.sl false 0 l.length 1 (rowT u8C l), .v (.int .i64 (belowN m.length l pos)), .v (.int .i64 (belowS m.length st))]⟩ := ⟨fun h => spec_l1PickInt l pos st k m h⟩
instance (l : List Int) (pos st : Int) (k : Nat) (m : List ByteArray) : Con1 Tryd.prog ⟨0, true, [.sl false 0 l.length 1 (rowT u8C l), .v (.int .i64 pos), .v (.int .i64 st)]⟩ F.spec_l1Pick [.ptr 0 [] 0, .sl false k m.length 1 (rowT strC m)] (curP l pos ∧ 0 < m.length ∧ m.length ≤ 1000000000) (.v (.string (nth m (belowV m.length l pos st)))) ⟨0, true, [.sl false 0 l.length 1 (rowT u8C l), .v (.int .i64 (belowN m.length l pos)), .v (.int .i64 (belowS m.length st))]⟩ := ⟨fun h => spec_l1Pick l pos st k m h⟩

end Go.TL
