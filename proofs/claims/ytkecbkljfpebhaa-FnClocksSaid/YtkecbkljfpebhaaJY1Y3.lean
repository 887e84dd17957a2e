/- Texts joined. No conditions but those that are written. -/
import Derived.Test.YtkecbkljfpebhaaX10
import Derived.Test.YtkecbkljfpebhaaTLm
import Derived.Test.YtkecbkljfpebhaaTFv
import Derived.Test.YtkecbkljfpebhaaTNst
import Derived.Test.YtkecbkljfpebhaaJG1G0
/- Parts of a stable sort: comparing, swapping ranges. No conditions but those that are written. -/
namespace Go.TL
set_option linter.unusedSimpArgs false
open Go.Proofs Go.RowKit
attribute [local irreducible] wpOpsT wpT EndT Ex.seq Ex.block W

def cmpV (x y : Int) : Int := if x < y then -1 else if y < x then 1 else 0
theorem cmpV_lt {x y : Int} : cmpV x y < 0 ↔ x < y := by unfold cmpV; split <;> (try split) <;> omega

set_option maxHeartbeats 4000000 in
theorem cmp_isNaN_int__y (x : Int) : CallsT Try.prog [] F.cmp_isNaN_int [.v (.int .i64 x)] (.v (.bool false)) [] := by
  refine fnT C.cmp_isNaN_int ?_
  refine run ?_
  exact r_end [] []
instance (x : Int) : Con Try.prog F.cmp_isNaN_int [.v (.int .i64 x)] True (.v (.bool false)) [] := ⟨fun _ => cmp_isNaN_int__y x⟩

set_option maxHeartbeats 4000000 in
theorem cmp_Compare_int (x y : Int) : CallsT Try.prog [] F.cmp_Compare_int [.v (.int .i64 x), .v (.int .i64 y)] (.v (.int .i64 (cmpV x y))) [] := by
  refine fnT C.cmp_Compare_int ?_
  refine run ?_
  refine r_ifd (fun h => ?_) (fun h => ?_)
  · rw [show cmpV x y = -1 from if_pos h]
    refine run ?_
    exact r_end [] []
  refine run ?_
  refine r_ifd (fun h2 => ?_) (fun h2 => ?_)
  · rw [show cmpV x y = 1 from (if_neg h).trans (if_pos h2)]
    refine run ?_
    exact r_end [] []
  · rw [show cmpV x y = 0 from (if_neg h).trans (if_neg h2)]
    refine run ?_
    exact r_end [] []
instance (x y : Int) : Con Try.prog F.cmp_Compare_int [.v (.int .i64 x), .v (.int .i64 y)] True (.v (.int .i64 (cmpV x y))) [] := ⟨fun _ => cmp_Compare_int x y⟩

set_option maxHeartbeats 4000000 in
theorem impl_settingsOf_1 (a b c d : Int) : CallsT Try.prog [] F.impl_settingsOf_1 [.agg [.v (.int .i64 a), .v (.int .i64 b)], .agg [.v (.int .i64 c), .v (.int .i64 d)]] (.v (.int .i64 (cmpV a c))) [] := by
  refine fnT C.impl_settingsOf_1 ?_
  refine run ?_
  exact r_end [] []
instance (a b c d : Int) : Con Try.prog F.impl_settingsOf_1 [.agg [.v (.int .i64 a), .v (.int .i64 b)], .agg [.v (.int .i64 c), .v (.int .i64 d)]] True (.v (.int .i64 (cmpV a c))) [] := ⟨fun _ => impl_settingsOf_1 a b c d⟩

theorem ltTY {a b : Int} (h : a < b) : (a < b) = True := eq_true h
theorem ltFY {a b : Int} (h : ¬ a < b) : (a < b) = False := eq_false h
/-- Two change their places. -/
def swp (l : List ShiftV) (p q : Nat) : List ShiftV := (l.set p (nth l (q : Nat))).set q (nth l (p : Nat))
theorem swp_len (l : List ShiftV) (p q : Nat) : (swp l p q).length = l.length := by simp [swp]
def swN (l : List ShiftV) (a b : Nat) : Nat → List ShiftV
  | 0 => l
  | i + 1 => swp (swN l a b i) (a + i) (b + i)
theorem swN_len (l : List ShiftV) (a b : Nat) : ∀ i, (swN l a b i).length = l.length
  | 0 => rfl
  | i + 1 => by rw [swN, swp_len, swN_len l a b i]

theorem nth_midX {A B : List ShiftV} {x : ShiftV} {p : Nat} (h : p = A.length) : nth (A ++ x :: B) (p : Nat) = x := by
  subst h
  rw [nth_nat (by simp), List.getElem_append_right (Nat.le_refl _)]
  simp
theorem set_midX {A B : List ShiftV} {x y : ShiftV} {p : Nat} (h : p = A.length) : (A ++ x :: B).set p y = A ++ y :: B := by
  subst h
  rw [List.set_append_right _ _ (Nat.le_refl _), Nat.sub_self, List.set_cons_zero]
theorem get_sh0 {l : List ShiftV} {x : Int} (h : x.toNat < l.length) : (rowT shiftC l)[x.toNat * 2]? = some (.v (.int .i64 ((nth l x).at'))) := by
  have h0 := row_cell (enc := shiftC) (l := l) (x := x) 0 h (by decide)
  rw [Nat.add_zero] at h0
  exact h0
theorem get_sh1 {l : List ShiftV} {x : Int} (h : x.toNat < l.length) : (rowT shiftC l)[x.toNat * 2 + 1]? = some (.v (.int .i64 ((nth l x).off))) :=
  row_cell (enc := shiftC) (l := l) (x := x) 1 h (by decide)
/-- Two that stand somewhere change their places, whichever is named first. -/
theorem swp_mid {A B C : List ShiftV} {x y : ShiftV} {p q : Nat} (hp : p = A.length) (hq : q = A.length + 1 + B.length) : swp (A ++ x :: (B ++ y :: C)) p q = A ++ y :: (B ++ x :: C) := by
  have e : ∀ z w : ShiftV, A ++ z :: (B ++ w :: C) = (A ++ z :: B) ++ w :: C := fun z w => by rw [List.append_assoc, List.cons_append]
  have hl : ∀ z : ShiftV, q = (A ++ z :: B).length := fun z => by rw [List.length_append, List.length_cons]; omega
  unfold swp
  rw [show nth (A ++ x :: (B ++ y :: C)) (p : Nat) = x from nth_midX hp, show nth (A ++ x :: (B ++ y :: C)) (q : Nat) = y by rw [e]; exact nth_midX (hl x)]
  rw [set_midX hp, e, set_midX (hl y), e]
theorem swp_mid' {A B C : List ShiftV} {x y : ShiftV} {p q : Nat} (hp : p = A.length) (hq : q = A.length + 1 + B.length) : swp (A ++ x :: (B ++ y :: C)) q p = A ++ y :: (B ++ x :: C) := by
  refine Eq.trans ?_ (swp_mid (C := C) (x := x) (y := y) hp hq)
  unfold swp
  exact List.set_comm _ _ (by omega)

/-- Two ranges change their places. -/
theorem swN_all {P X M Y Q : List ShiftV} (h : X.length = Y.length) : swN (P ++ X ++ M ++ Y ++ Q) P.length (P.length + X.length + M.length) X.length = P ++ Y ++ M ++ X ++ Q := by
  have key : ∀ i, i ≤ X.length → swN (P ++ X ++ M ++ Y ++ Q) P.length (P.length + X.length + M.length) i = P ++ (Y.take i ++ X.drop i) ++ M ++ (X.take i ++ Y.drop i) ++ Q := by
    intro i
    induction i with
    | zero => intro _; simp [swN]
    | succ i ih =>
      intro hi
      rw [swN, ih (by omega)]
      have hx : X.drop i = nth X (i : Nat) :: X.drop (i + 1) := by rw [List.drop_eq_getElem_cons (by omega), nth_nat (by omega)]
      have hy : Y.drop i = nth Y (i : Nat) :: Y.drop (i + 1) := by rw [List.drop_eq_getElem_cons (by omega), nth_nat (by omega)]
      have tx : X.take (i + 1) = X.take i ++ [nth X (i : Nat)] := take_nth (by omega)
      have ty : Y.take (i + 1) = Y.take i ++ [nth Y (i : Nat)] := take_nth (by omega)
      rw [hx, hy, tx, ty]
      have lx : (X.take i).length = i := by rw [List.length_take]; omega
      have ly : (Y.take i).length = i := by rw [List.length_take]; omega
      have ldx : (X.drop (i + 1)).length = X.length - (i + 1) := List.length_drop ..
      rw [show P ++ (Y.take i ++ nth X (i : Nat) :: X.drop (i + 1)) ++ M ++ (X.take i ++ nth Y (i : Nat) :: Y.drop (i + 1)) ++ Q = (P ++ Y.take i) ++ nth X (i : Nat) :: ((X.drop (i + 1) ++ M ++ X.take i) ++ nth Y (i : Nat) :: (Y.drop (i + 1) ++ Q)) by simp only [List.append_assoc, List.cons_append]]
      rw [swp_mid (by rw [List.length_append, ly]) (by simp only [List.length_append, ly, lx, ldx]; omega)]
      simp only [List.append_assoc, List.cons_append, List.nil_append]
  have := key X.length (Nat.le_refl _)
  rw [this, List.take_length, List.drop_length, h, List.take_length, List.drop_length]
  simp only [List.append_assoc, List.append_nil]

attribute [local go_sem] get_sh0 get_sh1

set_option linter.unusedSimpArgs false in
set_option maxHeartbeats 4000000 in
theorem swapRange (l : List ShiftV) (a b n : Nat) (ha : a + n ≤ l.length) (hb : b + n ≤ l.length) (hl : l.length ≤ 100000) : CallsT Try.prog [⟨2, true, rowT shiftC l⟩] F.slices_swapRangeCmpFunc_setting [.ref 0 [] 0 l.length, .v (.int .i64 ((a : Nat))), .v (.int .i64 ((b : Nat))), .v (.int .i64 ((n : Nat))), .v (.func (.func 93) #[] #[])] (.tup []) [⟨2, true, rowT shiftC (swN l a b n)⟩] := by
  refine fnT C.slices_swapRangeCmpFunc_setting ?_
  refine run ?_
  refine r_loop_of (σ := Nat) (fun i => [(0, .ref 0 [] 0 l.length), (1, .v (.int .i64 ((a : Nat)))), (2, .v (.int .i64 ((b : Nat)))), (3, .v (.int .i64 ((n : Nat)))), (10, .v (.int .i64 ((i : Nat))))]) (fun i => [⟨2, true, rowT shiftC (swN l a b i)⟩]) (fun i => i ≤ n) (fun i => n - i) 0 [0] [] (by omega) Gc.of ?_
  intro i hi
  have hL := swN_len l a b i
  rw [← hL]
  rw [← hL] at ha hb hl
  refine run ?_
  refine r_ifd (fun h => ?_) (fun h => ?_)
  · have hs : swN l a b (i + 1) = swp (swN l a b i) (a + i) (b + i) := rfl
    generalize swN l a b i = L at *
    refine run ?_
    refine r_sto (enc := shiftC) _ (a + i) (nth L ((b + i : Nat) : Int)) ?_
    refine run ?_
    refine r_sto (enc := shiftC) _ (b + i) (nth L ((a + i : Nat) : Int)) ?_
    refine run ?_
    refine ⟨i + 1, [0], [], Gc.of (hs := ?_), by omega, by omega⟩
    rw [hs]
    (simp (disch := omega) only [go_sem, ↓reduceIte, Nat.reduceEqDiff, Nat.reduceMul, Nat.reduceAdd, Nat.reduceSub, Nat.reduceLT, Nat.reduceGT, Nat.reduceLeDiff, Nat.reduceBEq, Int.reduceLT, Int.reduceLE, Int.reduceNe, Int.reduceEq, Int.reduceToNat, Int.reduceAdd, Int.reduceSub, Int.reduceMul, Int.reduceNeg, Nat.reducePow, Int.reducePow, Nat.reduceSubDiff, decide_true, decide_false, reduceCtorEq, or_self, or_false, false_or, or_true, true_or, if_false, gt_iff_lt, ge_iff_le, ne_eq, not_true_eq_false, not_false_eq_true, and_self, beq_self_eq_true, Bool.false_eq_true, List.append_assoc]; exact WkS.refl _)
  · obtain rfl : i = n := by omega
    refine run ?_
    exact EndT.norm (r_end [0] [])

end Go.TL

/- Parts of a stable sort: two blocks that lie side by side change their places. No conditions but those that are written. -/
namespace Go.TL
set_option linter.unusedSimpArgs false
open Go.Proofs Go.RowKit
attribute [local irreducible] wpOpsT wpT EndT Ex.seq Ex.block W

theorem swapRangeI {l l' : List ShiftV} {x y z : Int} (a b n : Nat) (hx : x = (a : Nat)) (hy : y = (b : Nat)) (hz : z = (n : Nat)) (ha : a + n ≤ l.length) (hb : b + n ≤ l.length) (hl : l.length ≤ 100000) (h : swN l a b n = l') : CallsT Try.prog [⟨2, true, rowT shiftC l⟩] F.slices_swapRangeCmpFunc_setting [.ref 0 [] 0 l.length, .v (.int .i64 x), .v (.int .i64 y), .v (.int .i64 z), .v (.func (.func 93) #[] #[])] (.tup []) [⟨2, true, rowT shiftC l'⟩] := by
  subst hx; subst hy; subst hz; subst h
  exact swapRange l a b n ha hb hl

theorem len4 (P X Y Q : List ShiftV) : (P ++ X ++ Y ++ Q).length = P.length + X.length + Y.length + Q.length := by simp only [List.length_append]

set_option linter.unusedSimpArgs false in
set_option maxHeartbeats 8000000 in
theorem rotateX (P X Y Q : List ShiftV) (hx : 0 < X.length) (hy : 0 < Y.length) (hl : (P ++ X ++ Y ++ Q).length ≤ 100000) {a m b : Int} (ha : a = P.length) (hm : m = (P.length : Int) + X.length) (hb : b = (P.length : Int) + X.length + Y.length) : CallsT Try.prog [⟨2, true, rowT shiftC (P ++ X ++ Y ++ Q)⟩] F.slices_rotateCmpFunc_setting [.ref 0 [] 0 (P ++ X ++ Y ++ Q).length, .v (.int .i64 a), .v (.int .i64 m), .v (.int .i64 b), .v (.func (.func 93) #[] #[])] (.tup []) [⟨2, true, rowT shiftC (P ++ Y ++ X ++ Q)⟩] := by
  have hlen := len4 P X Y Q
  generalize hN : (P ++ X ++ Y ++ Q).length = N at *
  refine fnT C.slices_rotateCmpFunc_setting ?_
  refine run ?_
  refine r_loop_of (σ := List ShiftV × List ShiftV × List ShiftV × List ShiftV) (fun s => [(0, .ref 0 [] 0 N), (2, .v (.int .i64 m)), (4, .v (.func (.func 93) #[] #[])), (10, .v (.int .i64 s.2.1.length)), (11, .v (.int .i64 s.2.2.1.length))]) (fun s => [⟨2, true, rowT shiftC (s.1 ++ s.2.1 ++ s.2.2.1 ++ s.2.2.2)⟩]) (fun s => s.1 ++ s.2.2.1 ++ s.2.1 ++ s.2.2.2 = P ++ Y ++ X ++ Q ∧ (s.1.length : Int) + s.2.1.length = m ∧ 0 < s.2.1.length ∧ 0 < s.2.2.1.length ∧ (s.1 ++ s.2.1 ++ s.2.2.1 ++ s.2.2.2).length = N) (fun s => s.2.1.length + s.2.2.1.length) (P, X, Y, Q) [0] [] ⟨rfl, by dsimp only; omega, hx, hy, hN⟩ Gc.of ?_
  rintro ⟨P', X', Y', Q'⟩ ⟨h1, h2, h3, h4, h5⟩
  dsimp only at h1 h2 h3 h4 h5 ⊢
  have h6 := len4 P' X' Y' Q'
  rw [h5] at h6
  refine run ?_
  refine r_ifd (fun hc => ?_) (fun hc => ?_)
  · refine run ?_
    refine r_ifd (fun hg => ?_) (fun hg => ?_)
    · have t1 : (X'.take Y'.length).length = Y'.length := by rw [List.length_take]; omega
      have t2 : (X'.drop Y'.length).length = X'.length - Y'.length := List.length_drop ..
      have hs := swN_all (P := P') (X := X'.take Y'.length) (M := X'.drop Y'.length) (Y := Y') (Q := Q') t1
      rw [t1, t2, show P' ++ X'.take Y'.length ++ X'.drop Y'.length ++ Y' ++ Q' = P' ++ X' ++ Y' ++ Q' by rw [List.append_assoc P', List.take_append_drop]] at hs
      have hc1 := swapRangeI (x := m - (X'.length : Int)) (y := m) (z := (Y'.length : Int)) P'.length (P'.length + Y'.length + (X'.length - Y'.length)) Y'.length (by omega) (by omega) rfl (by omega) (by omega) (by omega) hs
      rw [h5] at hc1
      refine runC ?_
      refine r_calln [0] hc1 ?_
      refine run ?_
      refine ⟨(P' ++ Y', X'.drop Y'.length, X'.take Y'.length, Q'), [0], [], Gc.of, by dsimp only; omega, ?_, by dsimp only; rw [List.length_append]; omega, by dsimp only; omega, by dsimp only; omega, by dsimp only; rw [len4, List.length_append]; omega⟩
      dsimp only
      rw [← h1]
      conv => rhs; rw [← List.take_append_drop Y'.length X']
      simp only [List.append_assoc]
    · have t1 : (Y'.drop (Y'.length - X'.length)).length = X'.length := by rw [List.length_drop]; omega
      have t2 : (Y'.take (Y'.length - X'.length)).length = Y'.length - X'.length := by rw [List.length_take]; omega
      have hs := swN_all (P := P') (X := X') (M := Y'.take (Y'.length - X'.length)) (Y := Y'.drop (Y'.length - X'.length)) (Q := Q') t1.symm
      rw [t2, show P' ++ X' ++ Y'.take (Y'.length - X'.length) ++ Y'.drop (Y'.length - X'.length) ++ Q' = P' ++ X' ++ Y' ++ Q' by rw [List.append_assoc (P' ++ X'), List.take_append_drop]] at hs
      have hc1 := swapRangeI (x := m - (X'.length : Int)) (y := m + (Y'.length : Int) - (X'.length : Int)) (z := (X'.length : Int)) P'.length (P'.length + X'.length + (Y'.length - X'.length)) X'.length (by omega) (by omega) rfl (by omega) (by omega) (by omega) hs
      rw [h5] at hc1
      refine runC ?_
      refine r_calln [0] hc1 ?_
      refine run ?_
      refine ⟨(P', Y'.drop (Y'.length - X'.length), Y'.take (Y'.length - X'.length), X' ++ Q'), [0], [], Gc.of (hs := ?_), by dsimp only; omega, ?_, by dsimp only; omega, by dsimp only; omega, by dsimp only; omega, by dsimp only; rw [len4, List.length_append]; omega⟩
      · dsimp only
        rw [List.append_assoc _ X' Q']
        (simp (disch := omega) only [go_sem, ↓reduceIte, Nat.reduceEqDiff, Nat.reduceMul, Nat.reduceAdd, Nat.reduceSub, Nat.reduceLT, Nat.reduceGT, Nat.reduceLeDiff, Nat.reduceBEq, Int.reduceLT, Int.reduceLE, Int.reduceNe, Int.reduceEq, Int.reduceToNat, Int.reduceAdd, Int.reduceSub, Int.reduceMul, Int.reduceNeg, Nat.reducePow, Int.reducePow, Nat.reduceSubDiff, decide_true, decide_false, reduceCtorEq, or_self, or_false, false_or, or_true, true_or, if_false, gt_iff_lt, ge_iff_le, ne_eq, not_true_eq_false, not_false_eq_true, and_self, beq_self_eq_true, Bool.false_eq_true, List.append_assoc]; exact WkS.refl _)
      dsimp only
      rw [← h1]
      conv => rhs; rw [← List.take_append_drop (Y'.length - X'.length) Y']
      simp only [List.append_assoc]
  · have e : X'.length = Y'.length := by omega
    have hs := swN_all (P := P') (X := X') (M := []) (Y := Y') (Q := Q') e
    rw [List.append_nil, List.append_nil, h1] at hs
    have hc1 := swapRangeI (x := m - (X'.length : Int)) (y := m) (z := (X'.length : Int)) P'.length (P'.length + X'.length + ([] : List ShiftV).length) X'.length (by omega) (by simp only [List.length_nil]; omega) rfl (by omega) (by simp only [List.length_nil]; omega) (by omega) hs
    rw [h5] at hc1
    refine runC ?_
    refine r_calln [0] hc1 ?_
    refine run ?_
    exact EndT.norm (r_end [0] [])

end Go.TL

/- Parts of a stable sort: a short block is put in order by insertion. No conditions but those that are written. -/
namespace Go.TL
set_option linter.unusedSimpArgs false
open Go.Proofs Go.RowKit
attribute [local irreducible] wpOpsT wpT EndT Ex.seq Ex.block W

theorem len3 (P D Q : List ShiftV) : (P ++ D ++ Q).length = P.length + D.length + Q.length := by simp only [List.length_append]
/-- What stands where one is put in. -/
theorem ins_nth {P S R : List ShiftV} {x : ShiftV} {k : Nat} (hk : k ≤ S.length) : nth (P ++ (S.take k ++ x :: S.drop k) ++ R) ((P.length + k : Nat) : Int) = x := by
  have e : P ++ (S.take k ++ x :: S.drop k) ++ R = (P ++ S.take k) ++ x :: (S.drop k ++ R) := by simp only [List.append_assoc, List.cons_append]
  rw [e]
  exact nth_midX (by rw [List.length_append, List.length_take]; omega)
theorem ins_prev {P S R : List ShiftV} {x : ShiftV} {k : Nat} (hk : k + 1 ≤ S.length) : nth (P ++ (S.take (k + 1) ++ x :: S.drop (k + 1)) ++ R) ((P.length + k : Nat) : Int) = nth S (k : Nat) := by
  have e : P ++ (S.take (k + 1) ++ x :: S.drop (k + 1)) ++ R = (P ++ S.take k) ++ nth S (k : Nat) :: (x :: S.drop (k + 1) ++ R) := by
    rw [take_nth (by omega)]
    simp only [List.append_assoc, List.cons_append, List.nil_append]
  rw [e]
  exact nth_midX (by rw [List.length_append, List.length_take]; omega)
theorem ins_swp {P S R : List ShiftV} {x : ShiftV} {k : Nat} (hk : k + 1 ≤ S.length) : swp (P ++ (S.take (k + 1) ++ x :: S.drop (k + 1)) ++ R) (P.length + k + 1) (P.length + k) = P ++ (S.take k ++ x :: S.drop k) ++ R := by
  have e : P ++ (S.take (k + 1) ++ x :: S.drop (k + 1)) ++ R = (P ++ S.take k) ++ nth S (k : Nat) :: ([] ++ x :: (S.drop (k + 1) ++ R)) := by
    rw [take_nth (by omega)]
    simp only [List.append_assoc, List.cons_append, List.nil_append]
  rw [e, swp_mid' (by rw [List.length_append, List.length_take]; omega) (by rw [List.length_append, List.length_take, List.length_nil]; omega)]
  rw [List.drop_eq_getElem_cons (show k < S.length by omega), nth_nat (show k < S.length by omega)]
  simp only [List.append_assoc, List.cons_append, List.nil_append]

attribute [local go_sem] get_sh0 get_sh1
section
attribute [local go_sem] ltTY ltFY

set_option linter.unusedSimpArgs false in
set_option maxHeartbeats 8000000 in
theorem insertionX (P D Q : List ShiftV) (hl : (P ++ D ++ Q).length ≤ 100000) {a b : Int} (ha : a = P.length) (hb : b = (P.length : Int) + D.length) : CallsT Try.prog [⟨2, true, rowT shiftC (P ++ D ++ Q)⟩] F.slices_insertionSortCmpFunc_setting [.ref 0 [] 0 (P ++ D ++ Q).length, .v (.int .i64 a), .v (.int .i64 b), .v (.func (.func 93) #[] #[])] (.tup []) [⟨2, true, rowT shiftC (P ++ srt D ++ Q)⟩] := by
  have hlen := len3 P D Q
  generalize hN : (P ++ D ++ Q).length = N at *
  subst ha
  subst hb
  refine fnT C.slices_insertionSortCmpFunc_setting ?_
  by_cases hD : D = []
  · subst hD
    rw [show srt ([] : List ShiftV) = [] from rfl]
    refine run ?_
    refine r_loop_of (σ := Unit) (fun _ => [(0, .ref 0 [] 0 N), (1, .v (.int .i64 P.length)), (2, .v (.int .i64 ((P.length : Int) + ([] : List ShiftV).length))), (3, .v (.func (.func 93) #[] #[])), (8, .v (.int .i64 ((P.length : Int) + 1)))]) (fun _ => [⟨2, true, rowT shiftC (P ++ [] ++ Q)⟩]) (fun _ => True) (fun _ => 0) () [0] [] trivial Gc.of ?_
    intro _ _
    simp only [List.length_nil]
    refine run ?_
    exact EndT.norm (r_end [0] [])
  have hpos : 0 < D.length := List.length_pos_iff.2 hD
  refine run ?_
  refine r_loop_of (σ := Nat) (fun i => [(0, .ref 0 [] 0 N), (1, .v (.int .i64 P.length)), (2, .v (.int .i64 ((P.length : Int) + D.length))), (3, .v (.func (.func 93) #[] #[])), (8, .v (.int .i64 ((P.length : Int) + (i : Nat))))]) (fun i => [⟨2, true, rowT shiftC (P ++ (srt (D.take i) ++ D.drop i) ++ Q)⟩]) (fun i => 1 ≤ i ∧ i ≤ D.length) (fun i => D.length - i) 1 [0] [] (by omega) (Gc.of (hs := ?_)) ?_
  · have e : srt (D.take 1) ++ D.drop 1 = D := by
      cases D with
      | nil => exact absurd rfl hD
      | cons x D => rfl
    rw [e]
    (simp (disch := omega) only [go_sem, ↓reduceIte, Nat.reduceEqDiff, Nat.reduceMul, Nat.reduceAdd, Nat.reduceSub, Nat.reduceLT, Nat.reduceGT, Nat.reduceLeDiff, Nat.reduceBEq, Int.reduceLT, Int.reduceLE, Int.reduceNe, Int.reduceEq, Int.reduceToNat, Int.reduceAdd, Int.reduceSub, Int.reduceMul, Int.reduceNeg, Nat.reducePow, Int.reducePow, Nat.reduceSubDiff, decide_true, decide_false, reduceCtorEq, or_self, or_false, false_or, or_true, true_or, if_false, gt_iff_lt, ge_iff_le, ne_eq, not_true_eq_false, not_false_eq_true, and_self, beq_self_eq_true, Bool.false_eq_true, List.append_assoc]; exact WkS.refl _)
  rintro i ⟨hi1, hi2⟩
  have hS := srt_ok (D.take i)
  have hSl : (srt (D.take i)).length = i := by rw [srt_len, List.length_take]; omega
  refine run ?_
  refine r_ifd (fun h => ?_) (fun h => ?_)
  · have hi : i < D.length := by omega
    have hd : D.drop i = nth D (i : Nat) :: D.drop (i + 1) := by rw [List.drop_eq_getElem_cons hi, nth_nat hi]
    have hn : srt (D.take (i + 1)) = insW (srt (D.take i)) (nth D (i : Nat)) := by rw [take_nth hi, srt_s]
    have hR : (D.drop (i + 1)).length = D.length - (i + 1) := List.length_drop ..
    rw [hd]
    generalize srt (D.take i) = S at *
    generalize nth D (i : Nat) = x at *
    have hst : ∀ k, k ≤ S.length → (P ++ (S.take k ++ x :: S.drop k) ++ (D.drop (i + 1) ++ Q)).length = N := fun k hk => by
      simp only [List.length_append, List.length_cons, List.length_take, List.length_drop]; omega
    refine run ?_
    refine r_loop_of (σ := Nat) (fun k => [(0, .ref 0 [] 0 N), (1, .v (.int .i64 P.length)), (2, .v (.int .i64 ((P.length : Int) + D.length))), (3, .v (.func (.func 93) #[] #[])), (8, .v (.int .i64 ((P.length : Int) + (i : Nat)))), (9, .v (.int .i64 ((P.length : Int) + (k : Nat))))]) (fun k => [⟨2, true, rowT shiftC (P ++ (S.take k ++ x :: S.drop k) ++ (D.drop (i + 1) ++ Q))⟩]) (fun k => k ≤ S.length ∧ ∀ y ∈ S.drop k, x.at' < y.at') (fun k => k) S.length [0] [] ⟨Nat.le_refl _, fun y hy => by rw [List.drop_length] at hy; exact absurd hy List.not_mem_nil⟩ (Gc.of (hf := by rw [hSl]; (simp only [go_sem, ↓reduceIte, Nat.reduceEqDiff, Nat.reduceMul, Nat.reduceAdd, Nat.reduceSub, Nat.reduceLT, Nat.reduceGT, Nat.reduceLeDiff, Nat.reduceBEq, Int.reduceLT, Int.reduceLE, Int.reduceNe, Int.reduceEq, Int.reduceToNat, Int.reduceAdd, Int.reduceSub, Int.reduceMul, Int.reduceNeg, Nat.reducePow, Int.reducePow, Nat.reduceSubDiff, decide_true, decide_false, reduceCtorEq, or_self, or_false, false_or, or_true, true_or, if_false, gt_iff_lt, ge_iff_le, ne_eq, not_true_eq_false, not_false_eq_true, and_self, beq_self_eq_true, Bool.false_eq_true]; try (repeat (first | exact True.intro | exact Wk.refl _ | exact Wk.nil _ _ | exact Wk.dead _ | exact Wk.bT (by assumption) | exact Wk.bF (by assumption) | exact Wk.eqI (by omega) | exact WkS.refl _ | exact Wks.same _ | exact Wks.nil | exact WkS.nil | refine And.intro ?_ ?_ | refine Wk.aggs ?_ | refine Wk.tups ?_ | refine Wks.cons ?_ ?_ | refine WkS.cons (by first | exact fun _ => rfl | exact fun h => absurd h Bool.false_ne_true) ?_ ?_ ?_ | assumption | exact (fun h => h) | exact (fun h => absurd h Bool.false_ne_true) | intro _)))) (hs := ?_)) ?_
    · rw [List.take_length, List.drop_length, show P ++ (S ++ x :: D.drop (i + 1)) ++ Q = P ++ (S ++ [x]) ++ (D.drop (i + 1) ++ Q) by simp only [List.append_assoc, List.cons_append, List.nil_append]]
      (simp (disch := omega) only [go_sem, ↓reduceIte, Nat.reduceEqDiff, Nat.reduceMul, Nat.reduceAdd, Nat.reduceSub, Nat.reduceLT, Nat.reduceGT, Nat.reduceLeDiff, Nat.reduceBEq, Int.reduceLT, Int.reduceLE, Int.reduceNe, Int.reduceEq, Int.reduceToNat, Int.reduceAdd, Int.reduceSub, Int.reduceMul, Int.reduceNeg, Nat.reducePow, Int.reducePow, Nat.reduceSubDiff, decide_true, decide_false, reduceCtorEq, or_self, or_false, false_or, or_true, true_or, if_false, gt_iff_lt, ge_iff_le, ne_eq, not_true_eq_false, not_false_eq_true, and_self, beq_self_eq_true, Bool.false_eq_true, List.append_assoc]; exact WkS.refl _)
    rintro k ⟨hk1, hk2⟩
    have hlk := hst k hk1
    cases k with
    | zero =>
      have e5 : insW S x = x :: S := ins_place (k := 0) (fun y hy => by simp at hy) hk2
      refine run ?_
      refine ⟨i + 1, [0], [], Gc.of (hs := ?_), by omega, by omega⟩
      rw [hn, e5, show P ++ x :: S ++ (D.drop (i + 1) ++ Q) = P ++ (x :: S ++ D.drop (i + 1)) ++ Q by simp only [List.append_assoc, List.cons_append]]
      (simp (disch := omega) only [go_sem, ↓reduceIte, Nat.reduceEqDiff, Nat.reduceMul, Nat.reduceAdd, Nat.reduceSub, Nat.reduceLT, Nat.reduceGT, Nat.reduceLeDiff, Nat.reduceBEq, Int.reduceLT, Int.reduceLE, Int.reduceNe, Int.reduceEq, Int.reduceToNat, Int.reduceAdd, Int.reduceSub, Int.reduceMul, Int.reduceNeg, Nat.reducePow, Int.reducePow, Nat.reduceSubDiff, decide_true, decide_false, reduceCtorEq, or_self, or_false, false_or, or_true, true_or, if_false, gt_iff_lt, ge_iff_le, ne_eq, not_true_eq_false, not_false_eq_true, and_self, beq_self_eq_true, Bool.false_eq_true, List.append_assoc]; exact WkS.refl _)
    | succ k =>
      have e1 := ins_nth (P := P) (R := D.drop (i + 1) ++ Q) (x := x) hk1
      have e2 := ins_prev (P := P) (R := D.drop (i + 1) ++ Q) (x := x) hk1
      have e3 := ins_swp (P := P) (R := D.drop (i + 1) ++ Q) (x := x) hk1
      have hdk : S.drop k = nth S (k : Nat) :: S.drop (k + 1) := by rw [List.drop_eq_getElem_cons (by omega), nth_nat (by omega)]
      generalize hLd : P ++ (S.take (k + 1) ++ x :: S.drop (k + 1)) ++ (D.drop (i + 1) ++ Q) = L at *
      have f1 : nth L ((P.length : Int) + ((k : Int) + 1)) = x := by
        rw [show ((P.length + (k + 1) : Nat) : Int) = (P.length : Int) + ((k : Int) + 1) by omega] at e1
        exact e1
      have f2 : nth L ((P.length : Int) + ((k : Int) + 1) - 1) = nth S (k : Nat) := by
        rw [show ((P.length + k : Nat) : Int) = (P.length : Int) + ((k : Int) + 1) - 1 by omega] at e2
        exact e2
      have e4 : (L.set (P.length + k + 1) (nth S (k : Nat))).set (P.length + k) x = P ++ (S.take k ++ x :: S.drop k) ++ (D.drop (i + 1) ++ Q) := by
        rw [← e3, swp, e2, show ((P.length + k + 1 : Nat) : Int) = ((P.length + (k + 1) : Nat) : Int) by omega, e1]
      have hc := cmpV_lt (x := x.at') (y := (nth S (k : Nat)).at')
      refine runC ?_
      refine r_fv ?_
      refine run ?_
      refine r_ifd (fun h5 => ?_) (fun h5 => ?_)
      · refine run ?_
        refine r_sto (enc := shiftC) _ (P.length + k + 1) _ ?_
        refine run ?_
        refine r_sto (enc := shiftC) _ (P.length + k) _ ?_
        simp only [nth_toNat, f1, f2, e4]
        refine run ?_
        refine ⟨k, [0], [], Gc.of, by omega, by omega, fun y hy => ?_⟩
        rw [hdk] at hy
        rcases List.mem_cons.1 hy with rfl | hy
        · simp only [nth_toNat, f1, f2] at h5
          exact hc.1 h5
        · exact hk2 y hy
      · have h6 : ¬ x.at' < (nth S (k : Nat)).at' := fun hh => h5 (by simp only [nth_toNat, f1, f2]; exact hc.2 hh)
        have e5 : insW S x = S.take (k + 1) ++ x :: S.drop (k + 1) := ins_place (fun y hy => by
          obtain ⟨j, hj1, hj2, rfl⟩ := mem_take hy
          have := asc_nth hS.1 (show j ≤ k by omega) (by omega)
          omega) hk2
        refine run ?_
        refine ⟨i + 1, [0], [], Gc.of (hs := ?_), by omega, by omega⟩
        rw [hn, e5, show P ++ ((S.take (k + 1) ++ x :: S.drop (k + 1)) ++ D.drop (i + 1)) ++ Q = P ++ (S.take (k + 1) ++ x :: S.drop (k + 1)) ++ (D.drop (i + 1) ++ Q) by simp only [List.append_assoc, List.cons_append], hLd]
        (simp (disch := omega) only [go_sem, ↓reduceIte, Nat.reduceEqDiff, Nat.reduceMul, Nat.reduceAdd, Nat.reduceSub, Nat.reduceLT, Nat.reduceGT, Nat.reduceLeDiff, Nat.reduceBEq, Int.reduceLT, Int.reduceLE, Int.reduceNe, Int.reduceEq, Int.reduceToNat, Int.reduceAdd, Int.reduceSub, Int.reduceMul, Int.reduceNeg, Nat.reducePow, Int.reducePow, Nat.reduceSubDiff, decide_true, decide_false, reduceCtorEq, or_self, or_false, false_or, or_true, true_or, if_false, gt_iff_lt, ge_iff_le, ne_eq, not_true_eq_false, not_false_eq_true, and_self, beq_self_eq_true, Bool.false_eq_true, List.append_assoc]; exact WkS.refl _)
  · obtain rfl : i = D.length := by omega
    rw [List.take_length, List.drop_length, List.append_nil]
    refine run ?_
    exact EndT.norm (r_end [0] [])
end

end Go.TL
