/- Texts joined. No conditions but those that are written. -/
import Derived.Test.YtkecbkljfpebhaaTLm
import Derived.Test.YtkecbkljfpebhaaNm
import Derived.Test.YtkecbkljfpebhaaTSlc
import Derived.Test.YtkecbkljfpebhaaTGet
/- What is drawn: the cursor. No conditions but those that are written. -/
namespace Go.TL
set_option linter.unusedSimpArgs false
open Go.Proofs Go.RowKit
attribute [local irreducible] wpOpsT wpT EndT Ex.seq Ex.block W

def stepSt (st : Int) : Int := wrap64 (wrap64 (st * 6364136223846793005) + 1442695040888963407)
def byte0 (st : Int) : Int := and64 (xor64 (st / 8589934592) (st / 35184372088832)) 255
theorem and255_b (x : Int) : 0 ≤ and64 x 255 ∧ and64 x 255 ≤ 255 := by
  unfold and64
  have h1 : (BitVec.ofInt 64 x &&& BitVec.ofInt 64 255).toNat ≤ 255 := by
    rw [BitVec.toNat_and]
    exact Nat.le_trans Nat.and_le_right (by decide)
  rw [IntWalk.i64_left, wrap64_in (by omega)]
  omega
def drawB (l : List Int) (pos st : Int) : Int := if pos < l.length then (byte0 (stepSt st) + nth l pos) % 256 else byte0 (stepSt st)
def drawN (l : List Int) (pos : Int) : Int := if pos < l.length then pos + 1 else pos
theorem drawB_b (l : List Int) (pos st : Int) : 0 ≤ drawB l pos st ∧ drawB l pos st ≤ 255 := by
  unfold drawB byte0
  have := and255_b (xor64 (stepSt st / 8589934592) (stepSt st / 35184372088832))
  split <;> omega
/-- A cursor that is right. -/
def curP (l : List Int) (pos : Int) : Prop := (∀ x ∈ l, 0 ≤ x ∧ x < 256) ∧ l.length ≤ 140737488351232 ∧ 0 ≤ pos ∧ pos ≤ l.length
theorem cur_next {l : List Int} {pos : Int} (h : curP l pos) : curP l (drawN l pos) := by
  refine ⟨h.1, h.2.1, ?_, ?_⟩ <;> (have h1 := h.2.2.1; have h2 := h.2.2.2; unfold drawN; split <;> omega)

theorem spec_l1Byte (l : List Int) (pos st : Int) (hpre : curP l pos) : CallsT Try.prog [⟨0, true, [.sl false 0 l.length 1 (rowT u8C l), .v (.int .i64 pos), .v (.int .i64 st)]⟩] F.spec_l1Byte [.ptr 0 [] 0] (.v (.int .i64 (drawB l pos st))) [⟨0, true, [.sl false 0 l.length 1 (rowT u8C l), .v (.int .i64 (drawN l pos)), .v (.int .i64 (stepSt st))]⟩] := by
  obtain ⟨hb, hl, hp0, hp1⟩ := hpre
  refine fnT C.spec_l1Byte ?_
  refine run ?_
  refine r_ifd (fun h => ?_) (fun h => ?_)
  · have hn := hb _ (nth_mem (l := l) (i := pos.toNat) (by omega))
    rw [nth_toNat] at hn
    have h0 := and255_b (xor64 (stepSt st / 8589934592) (stepSt st / 35184372088832))
    unfold stepSt at h0
    rw [show drawB l pos st = (byte0 (stepSt st) + nth l pos) % 256 from if_pos h, show drawN l pos = pos + 1 from if_pos h]
    refine run ?_
    exact r_end [0] [] (hm := keep_one _)
  · rw [show drawB l pos st = byte0 (stepSt st) from if_neg h, show drawN l pos = pos from if_neg h]
    refine run ?_
    exact r_end [0] [] (hm := keep_one _)
instance (l : List Int) (pos st : Int) : Con1 Try.prog ⟨0, true, [.sl false 0 l.length 1 (rowT u8C l), .v (.int .i64 pos), .v (.int .i64 st)]⟩ F.spec_l1Byte [.ptr 0 [] 0] (curP l pos) (.v (.int .i64 (drawB l pos st))) ⟨0, true, [.sl false 0 l.length 1 (rowT u8C l), .v (.int .i64 (drawN l pos)), .v (.int .i64 (stepSt st))]⟩ := ⟨fun h => spec_l1Byte l pos st h⟩

/-- Below n, n at most 256. -/
theorem spec_l1Below1 (l : List Int) (pos st n : Int) (hpre : curP l pos) (hn : 0 < n ∧ n ≤ 256) : CallsT Try.prog [⟨0, true, [.sl false 0 l.length 1 (rowT u8C l), .v (.int .i64 pos), .v (.int .i64 st)]⟩] F.spec_l1Below [.ptr 0 [] 0, .v (.int .i64 n)] (.v (.int .i64 (drawB l pos st % n))) [⟨0, true, [.sl false 0 l.length 1 (rowT u8C l), .v (.int .i64 (drawN l pos)), .v (.int .i64 (stepSt st))]⟩] := by
  have hd := drawB_b l pos st
  refine fnT C.spec_l1Below ?_
  refine runC ?_
  refine r_call1 ?_
  refine run ?_
  exact r_end [0] [] (hm := keep_one _)

def word4 (l : List Int) (pos st : Int) : Int := drawB l pos st * 16777216 + drawB l (drawN l pos) (stepSt st) * 65536 + drawB l (drawN l (drawN l pos)) (stepSt (stepSt st)) * 256 + drawB l (drawN l (drawN l (drawN l pos))) (stepSt (stepSt (stepSt st)))
def belowV (n : Int) (l : List Int) (pos st : Int) : Int := if n ≤ 256 then drawB l pos st % n else word4 l pos st % n
def belowN (n : Int) (l : List Int) (pos : Int) : Int := if n ≤ 256 then drawN l pos else drawN l (drawN l (drawN l (drawN l pos)))
def belowS (n : Int) (st : Int) : Int := if n ≤ 256 then stepSt st else stepSt (stepSt (stepSt (stepSt st)))
theorem below_next (n : Int) {l : List Int} {pos : Int} (h : curP l pos) : curP l (belowN n l pos) := by
  unfold belowN
  split
  · exact cur_next h
  · exact cur_next (cur_next (cur_next (cur_next h)))
theorem below_b {n : Int} (h : 0 < n) (l : List Int) (pos st : Int) : 0 ≤ belowV n l pos st ∧ belowV n l pos st < n := by
  unfold belowV
  split <;> exact ⟨Int.emod_nonneg _ (by omega), Int.emod_lt_of_pos _ h⟩
theorem spec_l1Below (l : List Int) (pos st n : Int) (hpre : curP l pos ∧ 0 < n ∧ n ≤ 1000000000) : CallsT Try.prog [⟨0, true, [.sl false 0 l.length 1 (rowT u8C l), .v (.int .i64 pos), .v (.int .i64 st)]⟩] F.spec_l1Below [.ptr 0 [] 0, .v (.int .i64 n)] (.v (.int .i64 (belowV n l pos st))) [⟨0, true, [.sl false 0 l.length 1 (rowT u8C l), .v (.int .i64 (belowN n l pos)), .v (.int .i64 (belowS n st))]⟩] := by
  obtain ⟨hc, hn0, hn⟩ := hpre
  by_cases hs : n ≤ 256
  · rw [belowV, if_pos hs, belowN, if_pos hs, belowS, if_pos hs]
    exact spec_l1Below1 l pos st n hc ⟨hn0, hs⟩
  rw [belowV, if_neg hs, belowN, if_neg hs, belowS, if_neg hs]
  have c1 := cur_next hc
  have c2 := cur_next c1
  have c3 := cur_next c2
  have b0 := drawB_b l pos st
  have b1 := drawB_b l (drawN l pos) (stepSt st)
  have b2 := drawB_b l (drawN l (drawN l pos)) (stepSt (stepSt st))
  have b3 := drawB_b l (drawN l (drawN l (drawN l pos))) (stepSt (stepSt (stepSt st)))
  rw [show word4 l pos st = drawB l pos st * 16777216 + drawB l (drawN l pos) (stepSt st) * 65536 + drawB l (drawN l (drawN l pos)) (stepSt (stepSt st)) * 256 + drawB l (drawN l (drawN l (drawN l pos))) (stepSt (stepSt (stepSt st))) from rfl]
  refine fnT C.spec_l1Below ?_
  refine runC ?_
  refine r_call1 ?_
  refine runC ?_
  refine r_call1 ?_
  refine runC ?_
  refine r_call1 ?_
  refine runC ?_
  refine r_call1 ?_
  refine run ?_
  exact r_end [0] [] (hm := keep_one _)
instance (l : List Int) (pos st n : Int) : Con1 Try.prog ⟨0, true, [.sl false 0 l.length 1 (rowT u8C l), .v (.int .i64 pos), .v (.int .i64 st)]⟩ F.spec_l1Below [.ptr 0 [] 0, .v (.int .i64 n)] (curP l pos ∧ 0 < n ∧ n ≤ 1000000000) (.v (.int .i64 (belowV n l pos st))) ⟨0, true, [.sl false 0 l.length 1 (rowT u8C l), .v (.int .i64 (belowN n l pos)), .v (.int .i64 (belowS n st))]⟩ := ⟨fun h => spec_l1Below l pos st n h⟩

end Go.TL

/- What is drawn: a new cursor, one of a row. No conditions but those that are written. -/
namespace Go.TL
set_option linter.unusedSimpArgs false
open Go.Proofs Go.RowKit
attribute [local irreducible] wpOpsT wpT EndT Ex.seq Ex.block W

section
variable {P : Program} {n : Nat} {S : Store} {fr : Nat → T} {ops : Array Oper} {d : Nat} {ty : TypeId} {pos : String} {aft : Array Edge} {rest : List Oper} {K : (Nat → T) → Store → Prop}
/-- A call that is lent one root, its contract given. -/
theorem r_call1p {pu pu' : Dr} {gd : Option (Nat × Bool)} {f : FuncId} {args : List Operand} {tys : Array TypeId} {ts2 : List T} {res2 res : T} {x y : Root} {S' : Store} (r : Nat) (hs : CallsT P [x] f ts2 res2 [y]) (h : wpOpsT P ops n pu' rest K (upd fr d res) S')
    (hw : wantedT ops fr ⟨some d, .call ⟨.value (.func f), args.toArray, tys⟩, ty, pos, aft, gd⟩ = some true := by rfl) (hx : S[r]? = some x := by rfl)
    (ha : lendTs false S [r] 1 (args.map (TL.ev fr)) = some ts2 := by rfl)
    (hn : gcTs [r] x.cs = x.cs := by first | rfl | (simp only [go_sem, ↓reduceIte, Nat.reduceEqDiff, Nat.reduceMul, Nat.reduceAdd, Nat.reduceSub, Nat.reduceLT, Nat.reduceGT, Nat.reduceLeDiff, Nat.reduceBEq, Int.reduceLT, Int.reduceLE, Int.reduceNe, Int.reduceEq, Int.reduceToNat, Int.reduceAdd, Int.reduceSub, Int.reduceMul, Int.reduceNeg, Nat.reducePow, Int.reducePow, Nat.reduceSubDiff, decide_true, decide_false, reduceCtorEq, or_self, or_false, false_or, or_true, true_or, if_false, gt_iff_lt, ge_iff_le, ne_eq, not_true_eq_false, not_false_eq_true, and_self, beq_self_eq_true, Bool.false_eq_true]; done)) (hr : allT (leafFree 1) res2 = true := by (first | (simp only [go_sem, ↓reduceIte, Nat.reduceEqDiff, Nat.reduceMul, Nat.reduceAdd, Nat.reduceSub, Nat.reduceLT, Nat.reduceGT, Nat.reduceLeDiff, Nat.reduceBEq, Int.reduceLT, Int.reduceLE, Int.reduceNe, Int.reduceEq, Int.reduceToNat, Int.reduceAdd, Int.reduceSub, Int.reduceMul, Int.reduceNeg, Nat.reducePow, Int.reducePow, Nat.reduceSubDiff, decide_true, decide_false, reduceCtorEq, or_self, or_false, false_or, or_true, true_or, if_false, gt_iff_lt, ge_iff_le, ne_eq, not_true_eq_false, not_false_eq_true, and_self, beq_self_eq_true, Bool.false_eq_true] <;> with_reducible rfl) | with_reducible rfl)) (hf : freeS 1 [y] = true := by rfl)
    (hres : ren (backId [r] S.length) res2 = res := by (first | (simp only [go_sem, ↓reduceIte, Nat.reduceEqDiff, Nat.reduceMul, Nat.reduceAdd, Nat.reduceSub, Nat.reduceLT, Nat.reduceGT, Nat.reduceLeDiff, Nat.reduceBEq, Int.reduceLT, Int.reduceLE, Int.reduceNe, Int.reduceEq, Int.reduceToNat, Int.reduceAdd, Int.reduceSub, Int.reduceMul, Int.reduceNeg, Nat.reducePow, Int.reducePow, Nat.reduceSubDiff, decide_true, decide_false, reduceCtorEq, or_self, or_false, false_or, or_true, true_or, if_false, gt_iff_lt, ge_iff_le, ne_eq, not_true_eq_false, not_false_eq_true, and_self, beq_self_eq_true, Bool.false_eq_true] <;> with_reducible rfl) | with_reducible rfl)) (hS : S.set r (Root.ren (backId [r] S.length) y) = S' := by (first | exact rfl)) (hd : Nat.blt d n = true := by rfl)
    (hp : Dr.step P ops n pu fr S ⟨some d, .call ⟨.value (.func f), args.toArray, tys⟩, ty, pos, aft, gd⟩ res S' pu' := by first | exact Dr.step.txt | exact dr_chain) :
    wpOpsT P ops n pu (⟨some d, .call ⟨.value (.func f), args.toArray, tys⟩, ty, pos, aft, gd⟩ :: rest) K fr S := by
  have hF : FreeS 1 [y] := fun z hz _ => List.all_eq_true.1 hf z hz
  have := hs.frame 1 (by decide) (fits_one hx hn) (.same _) ha hr hF (Nat.le_refl _)
  rw [hres, back_one, hS] at this
  exact r_op (opT_call hw (by simpa [okDst, Nat.blt_eq] using hd) (by simp [calleeT, TL.ev]) this) hp h
end

def newS (l : List Int) : Nat → Int
  | 0 => 10677 + l.length
  | i + 1 => (newS l i * 131 + nth l (i : Nat) + 7) % 1073741824
def newN (l : List Int) : Nat := min l.length 4000
theorem newS_b (l : List Int) (hl : l.length ≤ 140737488351232) : ∀ i, 0 ≤ newS l i ∧ newS l i ≤ 140737488361909
  | 0 => by unfold newS; omega
  | i + 1 => by unfold newS; omega
theorem and30 {x : Int} (h : 0 ≤ x ∧ x < 9223372036854775808) : and64 x 1073741823 = x % 1073741824 := and64_mask 30 (by decide) x h.1 (by omega) 1073741823 rfl
attribute [local go_sem] and30

set_option maxHeartbeats 4000000 in
theorem spec_l1New (l : List Int) (hpre : (∀ x ∈ l, 0 ≤ x ∧ x < 256) ∧ l.length ≤ 140737488351232) : CallsT Try.prog [] F.spec_l1New [.sl false 0 l.length 1 (rowT u8C l)] (.ptr 0 [] 0) [⟨0, true, [.sl false 0 l.length 1 (rowT u8C l), .v (.int .i64 0), .v (.int .i64 (newS l (newN l)))]⟩] := by
  refine fnT C.spec_l1New ?_
  obtain ⟨hb, hl⟩ := hpre
  refine run ?_
  refine r_for (newN l) (fun i => [(0, .sl false 0 l.length 1 (rowT u8C l)), (3, .v (.int .i64 (newS l i))), (4, .v (.int .i64 i))]) (fun _ => []) (fun _ => True) [] [] trivial Gc.of (fun i hi _ => ?_) (fun _ => ?_)
  · have hs := newS_b l hl i
    have hi1 : i < l.length := by unfold newN at hi; omega
    have hi2 : i < 4000 := by unfold newN at hi; omega
    have hn := hb _ (nth_mem hi1)
    refine run ?_
    exact ⟨[], [], Gc.of, trivial⟩
  · have hx : ¬ (((newN l : Nat) : Int) < l.length ∧ ((newN l : Nat) : Int) < 4000) := by unfold newN; omega
    refine run ?_
    exact r_end [0] []
instance (l : List Int) : Con Try.prog F.spec_l1New [.sl false 0 l.length 1 (rowT u8C l)] ((∀ x ∈ l, 0 ≤ x ∧ x < 256) ∧ l.length ≤ 140737488351232) (.ptr 0 [] 0) [⟨0, true, [.sl false 0 l.length 1 (rowT u8C l), .v (.int .i64 0), .v (.int .i64 (newS l (newN l)))]⟩] := ⟨fun h => spec_l1New l h⟩

/-- One of a row of ints. -/
theorem spec_l1PickInt (l : List Int) (pos st : Int) (k : Nat) (m : List Int) (hpre : curP l pos ∧ 0 < m.length ∧ m.length ≤ 1000000000) : CallsT Try.prog [⟨0, true, [.sl false 0 l.length 1 (rowT u8C l), .v (.int .i64 pos), .v (.int .i64 st)]⟩] F.spec_l1PickInt [.ptr 0 [] 0, .sl false k m.length 1 (rowT i64C m)] (.v (.int .i64 (nth m (belowV m.length l pos st)))) [⟨0, true, [.sl false 0 l.length 1 (rowT u8C l), .v (.int .i64 (belowN m.length l pos)), .v (.int .i64 (belowS m.length st))]⟩] := by
  obtain ⟨hc, h0, h1⟩ := hpre
  have hb := below_b (n := m.length) (by omega) l pos st
  refine fnT C.spec_l1PickInt ?_
  refine runC ?_
  refine r_call1 ?_
  refine run ?_
  exact r_end [0] [] (hm := keep_one _)
instance (l : List Int) (pos st : Int) (k : Nat) (m : List Int) : Con1 Try.prog ⟨0, true, [.sl false 0 l.length 1 (rowT u8C l), .v (.int .i64 pos), .v (.int .i64 st)]⟩ F.spec_l1PickInt [.ptr 0 [] 0, .sl false k m.length 1 (rowT i64C m)] (curP l pos ∧ 0 < m.length ∧ m.length ≤ 1000000000) (.v (.int .i64 (nth m (belowV m.length l pos st)))) ⟨0, true, [.sl false 0 l.length 1 (rowT u8C l), .v (.int .i64 (belowN m.length l pos)), .v (.int .i64 (belowS m.length st))]⟩ := ⟨fun h => spec_l1PickInt l pos st k m h⟩

end Go.TL

/- What is drawn of numbers: that there is a value and a place of the cursor, whatever the bytes. No conditions but those that are written. -/
namespace Go.TL
set_option linter.unusedSimpArgs false
open Go.Proofs Go.RowKit
attribute [local irreducible] wpOpsT wpT EndT Ex.seq Ex.block W

theorem below_ex (l : List Int) (c : Int × Int) (n : Int) (hc : curP l c.1) (hn : 0 < n ∧ n ≤ 1000000000) : ∃ (v : Int) (c' : Int × Int), (0 ≤ v ∧ v < n) ∧ curP l c'.1 ∧ CallsT Try.prog [⟨0, true, [.sl false 0 l.length 1 (rowT u8C l), .v (.int .i64 c.1), .v (.int .i64 c.2)]⟩] F.spec_l1Below [.ptr 0 [] 0, .v (.int .i64 n)] (.v (.int .i64 v)) [⟨0, true, [.sl false 0 l.length 1 (rowT u8C l), .v (.int .i64 (c'.1)), .v (.int .i64 (c'.2))]⟩] :=
  ⟨belowV n l c.1 c.2, (belowN n l c.1, belowS n c.2), below_b hn.1 l c.1 c.2, below_next n hc, spec_l1Below l c.1 c.2 n ⟨hc, hn⟩⟩
theorem pick_ex (l : List Int) (c : Int × Int) (m : List Int) (hc : curP l c.1) (hm : 0 < m.length ∧ m.length ≤ 1000000000) : ∃ (v : Int) (c' : Int × Int), v ∈ m ∧ curP l c'.1 ∧ ∀ k, CallsT Try.prog [⟨0, true, [.sl false 0 l.length 1 (rowT u8C l), .v (.int .i64 c.1), .v (.int .i64 c.2)]⟩] F.spec_l1PickInt [.ptr 0 [] 0, .sl false k m.length 1 (rowT i64C m)] (.v (.int .i64 v)) [⟨0, true, [.sl false 0 l.length 1 (rowT u8C l), .v (.int .i64 (c'.1)), .v (.int .i64 (c'.2))]⟩] := by
  have hb := below_b (n := m.length) (by omega) l c.1 c.2
  refine ⟨nth m (belowV m.length l c.1 c.2), (belowN m.length l c.1, belowS m.length c.2), ?_, below_next _ hc, fun k => spec_l1PickInt l c.1 c.2 k m ⟨hc, hm⟩⟩
  obtain ⟨i, hi⟩ := Int.eq_ofNat_of_zero_le hb.1
  rw [hi]
  exact nth_mem (by omega)
theorem once_ex (l : List Int) (c : Int × Int) (n : Int) (hc : curP l c.1) (hn : 0 < n ∧ n ≤ 1000000000) : ∃ (v : Bool) (c' : Int × Int), curP l c'.1 ∧ CallsT Try.prog [⟨0, true, [.sl false 0 l.length 1 (rowT u8C l), .v (.int .i64 c.1), .v (.int .i64 c.2)]⟩] F.spec_l1Once [.ptr 0 [] 0, .v (.int .i64 n)] (.v (.bool v)) [⟨0, true, [.sl false 0 l.length 1 (rowT u8C l), .v (.int .i64 (c'.1)), .v (.int .i64 (c'.2))]⟩] := by
  obtain ⟨v, c1, hv, hc1, h1⟩ := below_ex l c n hc hn
  refine ⟨decide (v = 0), c1, hc1, ?_⟩
  refine fnT C.spec_l1Once ?_
  refine runC ?_
  refine r_call1p 0 h1 ?_
  refine run ?_
  exact r_end [0] [] (hm := keep_one _)

end Go.TL
