/- Texts joined. No conditions but those that are written. -/
import Derived.Test.YtkecbkljfpebhaaX5
/- The calendar, both sides. No conditions but those that are written. -/
namespace Go.TL
set_option linter.unusedSimpArgs false
open Go.Proofs Go.RowKit
attribute [local irreducible] wpOpsT wpT EndT Ex.seq Ex.block W

set_option maxHeartbeats 4000000 in
theorem impl_isYear (y : Int) : CallsT Try.prog [] F.impl_isYear [.v (.int .i64 y)] (.v (.bool (decide (yearP y)))) [] := by
  refine fnT C.impl_isYear ?_
  refine run ?_
  refine r_endb ?_
  exact Iff.rfl
instance (y : Int) : Con Try.prog F.impl_isYear [.v (.int .i64 y)] True (.v (.bool (decide (yearP y)))) [] := ⟨fun _ => impl_isYear y⟩

set_option maxHeartbeats 4000000 in
theorem spec_l11Year (y : Int) : CallsT Try.prog [] F.spec_l11Year [.v (.int .i64 y)] (.v (.bool (decide (yearP y)))) [] := by
  refine fnT C.spec_l11Year ?_
  refine run ?_
  refine r_endb ?_
  exact Iff.rfl
instance (y : Int) : Con Try.prog F.spec_l11Year [.v (.int .i64 y)] True (.v (.bool (decide (yearP y)))) [] := ⟨fun _ => spec_l11Year y⟩

set_option maxHeartbeats 4000000 in
theorem impl_isLeap (y : Int) (hpre : 0 ≤ y) : CallsT Try.prog [] F.impl_isLeap [.v (.int .i64 y)] (.v (.bool (decide (leapP y)))) [] := by
  refine fnT C.impl_isLeap ?_
  refine run ?_
  refine r_endb ?_
  unfold leapP
  omega
instance (y : Int) : Con Try.prog F.impl_isLeap [.v (.int .i64 y)] (0 ≤ y) (.v (.bool (decide (leapP y)))) [] := ⟨fun h => impl_isLeap y h⟩

set_option maxHeartbeats 4000000 in
theorem spec_l11Leap (y : Int) (hpre : 0 ≤ y) : CallsT Try.prog [] F.spec_l11Leap [.v (.int .i64 y)] (.v (.bool (decide (leapP y)))) [] := by
  refine fnT C.spec_l11Leap ?_
  refine run ?_
  refine r_endb ?_
  unfold leapP
  omega
instance (y : Int) : Con Try.prog F.spec_l11Leap [.v (.int .i64 y)] (0 ≤ y) (.v (.bool (decide (leapP y)))) [] := ⟨fun h => spec_l11Leap y h⟩

set_option maxHeartbeats 4000000 in
theorem impl_yearLong (y : Int) (hpre : 0 ≤ y) : CallsT Try.prog [] F.impl_yearLong [.v (.int .i64 y)] (.v (.int .i64 (yearL y))) [] := by
  refine fnT C.impl_yearLong ?_
  refine run ?_
  refine r_ifd (fun h => ?_) (fun h => ?_)
  · rw [show yearL y = 366 from if_pos h]
    refine run ?_
    exact r_end [] []
  · rw [show yearL y = 365 from if_neg h]
    refine run ?_
    exact r_end [] []
instance (y : Int) : Con Try.prog F.impl_yearLong [.v (.int .i64 y)] (0 ≤ y) (.v (.int .i64 (yearL y))) [] := ⟨fun h => impl_yearLong y h⟩

set_option maxHeartbeats 4000000 in
theorem spec_l11Long (y m : Int) (hpre : 0 ≤ y) : CallsT Try.prog [] F.spec_l11Long [.v (.int .i64 y), .v (.int .i64 m)] (.v (.int .i64 (longM y m))) [] := by
  refine fnT C.spec_l11Long ?_
  refine run ?_
  refine r_ifd (fun h => ?_) (fun h => ?_)
  · refine run ?_
    refine r_ifd (fun h2 => ?_) (fun h2 => ?_)
    · rw [show longM y m = 29 from (if_pos h).trans (if_pos h2)]
      refine run ?_
      exact r_end [] []
    · rw [show longM y m = 28 from (if_pos h).trans (if_neg h2)]
      refine run ?_
      exact r_end [] []
  refine run ?_
  refine r_ifd (fun h4 => ?_) (fun h4 => ?_)
  · rw [show longM y m = 30 from (if_neg h).trans (if_pos (by omega))]
    refine run ?_
    exact r_end [] []
  refine run ?_
  refine r_ifd (fun h6 => ?_) (fun h6 => ?_)
  · rw [show longM y m = 30 from (if_neg h).trans (if_pos (by omega))]
    refine run ?_
    exact r_end [] []
  refine run ?_
  refine r_ifd (fun h9 => ?_) (fun h9 => ?_)
  · rw [show longM y m = 30 from (if_neg h).trans (if_pos (by omega))]
    refine run ?_
    exact r_end [] []
  refine run ?_
  refine r_ifd (fun h11 => ?_) (fun h11 => ?_)
  · rw [show longM y m = 30 from (if_neg h).trans (if_pos (by omega))]
    refine run ?_
    exact r_end [] []
  · rw [show longM y m = 31 from (if_neg h).trans (if_neg (by omega))]
    refine run ?_
    exact r_end [] []
instance (y m : Int) : Con Try.prog F.spec_l11Long [.v (.int .i64 y), .v (.int .i64 m)] (0 ≤ y) (.v (.int .i64 (longM y m))) [] := ⟨fun h => spec_l11Long y m h⟩

set_option maxHeartbeats 4000000 in
theorem spec_MonthLong (y m : Int) : CallsT Try.prog [] F.spec_MonthLong [.v (.int .i64 y), .v (.int .i64 m)] (.v (.int .i64 (monthL y m))) [] := by
  refine fnT C.spec_MonthLong ?_
  refine run ?_
  refine r_ifd (fun h => ?_) (fun h => ?_)
  · rw [monthL_no (fun hm => h.elim (fun k => k hm.1) (fun k => k hm.2))]
    refine run ?_
    exact r_end [] []
  · have hm : monthP y m := ⟨Decidable.not_not.1 (not_or.1 h).1, Decidable.not_not.1 (not_or.1 h).2⟩
    have hy := hm.1.1
    rw [monthL_at hm]
    refine run ?_
    exact r_end [] []
instance (y m : Int) : Con Try.prog F.spec_MonthLong [.v (.int .i64 y), .v (.int .i64 m)] True (.v (.int .i64 (monthL y m))) [] := ⟨fun _ => spec_MonthLong y m⟩

set_option linter.unusedSimpArgs false in
set_option maxHeartbeats 4000000 in
theorem impl_MonthLong (y m : Int) : CallsT Try.prog [] F.impl_MonthLong [.v (.int .i64 y), .v (.int .i64 m)] (.v (.int .i64 (monthL y m))) [] := by
  refine fnT C.impl_MonthLong ?_
  refine run ?_
  refine r_ifd (fun h => ?_) (fun h => ?_)
  · rw [monthL_no (fun hm => h.elim (fun k => k hm.1) (fun k => k hm.2))]
    refine run ?_
    exact r_end [] []
  · have hm : monthP y m := ⟨Decidable.not_not.1 (not_or.1 h).1, Decidable.not_not.1 (not_or.1 h).2⟩
    have hy := hm.1.1
    rw [monthL_at hm]
    refine run ?_
    refine r_ifd (fun h2 => ?_) (fun h2 => ?_)
    · rw [show longM y m = 29 from (if_pos h2.1).trans (if_pos h2.2)]
      refine run ?_
      exact r_end [] []
    · have hm2 := hm.2
      have h3 : m = 2 → ¬ leapP y := fun e hl => h2 ⟨e, hl⟩
      have h12 : m = 1 ∨ m = 2 ∨ m = 3 ∨ m = 4 ∨ m = 5 ∨ m = 6 ∨ m = 7 ∨ m = 8 ∨ m = 9 ∨ m = 10 ∨ m = 11 ∨ m = 12 := by omega
      clear h2
      rcases h12 with rfl | rfl | rfl | rfl | rfl | rfl | rfl | rfl | rfl | rfl | rfl | rfl
      case inr.inl => rw [show longM y 2 = 28 from if_neg (h3 rfl)]; refine run ?_; exact r_end [] []
      all_goals
        clear h3
        simp only [longM, Int.reduceEq, if_false, if_true, false_or, or_false, or_true, true_or]
        refine run ?_
        exact r_end [] []
instance (y m : Int) : Con Try.prog F.impl_MonthLong [.v (.int .i64 y), .v (.int .i64 m)] True (.v (.int .i64 (monthL y m))) [] := ⟨fun _ => impl_MonthLong y m⟩

set_option linter.unusedSimpArgs false in
set_option maxHeartbeats 4000000 in
theorem impl_yearBegins (y : Int) (hpre : 1900 ≤ y ∧ y ≤ 2201) : CallsT Try.prog [] F.impl_yearBegins [.v (.int .i64 y)] (.v (.int .i64 (begY y))) [] := by
  refine fnT C.impl_yearBegins ?_
  obtain ⟨h0, h1⟩ := hpre
  have e0 := begY_70
  refine run ?_
  refine r_loop_of (σ := Int) (fun n => [(0, .v (.int .i64 y)), (3, .v (.int .i64 (begY n))), (4, .v (.int .i64 n))]) (fun _ => []) (fun n => 1970 ≤ n ∧ (n ≤ y ∨ n = 1970)) (fun n => (y - n).toNat) 1970 [] [] (by omega) Gc.of ?_
  intro n hn
  have hb := begY_b (y := n) (by omega)
  refine run ?_
  refine r_ifd (fun h => ?_) (fun h => ?_)
  · have hs := begY_s n
    have hl := yearL_b n
    refine run ?_
    exact ⟨n + 1, [], [], Gc.of, by omega, by omega⟩
  · by_cases hy : y < 1970
    · obtain rfl : n = 1970 := by omega
      refine run ?_
      refine r_loop_of (σ := Int) (fun k => [(3, .v (.int .i64 (begY y - begY k))), (5, .v (.int .i64 k))]) (fun _ => []) (fun k => y ≤ k ∧ k ≤ 1970) (fun k => (1970 - k).toNat) y [] [] (by omega) Gc.of ?_
      intro k hk
      have hbk := begY_b (y := k) (by omega)
      have hby := begY_b (y := y) (by omega)
      refine run ?_
      refine r_ifd (fun h => ?_) (fun h => ?_)
      · have hs := begY_s k
        have hl := yearL_b k
        refine run ?_
        exact ⟨k + 1, [], [], Gc.of, by omega, by omega⟩
      · obtain rfl : k = 1970 := by omega
        refine run ?_
        exact r_end [] []
    · obtain rfl : n = y := by omega
      refine run ?_
      refine r_loop_of (σ := Unit) (fun _ => [(3, .v (.int .i64 (begY n))), (5, .v (.int .i64 n))]) (fun _ => []) (fun _ => True) (fun _ => 0) () [] [] trivial Gc.of ?_
      intro _ _
      refine run ?_
      exact r_end [] []
instance (y : Int) : Con Try.prog F.impl_yearBegins [.v (.int .i64 y)] (1900 ≤ y ∧ y ≤ 2201) (.v (.int .i64 (begY y))) [] := ⟨fun h => impl_yearBegins y h⟩

set_option linter.unusedSimpArgs false in
set_option maxHeartbeats 4000000 in
theorem spec_l11Begin (y : Int) (hpre : 1900 ≤ y ∧ y ≤ 2201) : CallsT Try.prog [] F.spec_l11Begin [.v (.int .i64 y)] (.v (.int .i64 (begY y))) [] := by
  refine fnT C.spec_l11Begin ?_
  obtain ⟨h0, h1⟩ := hpre
  have e0 := begY_70
  refine run ?_
  refine r_loop_of (σ := Int) (fun n => [(0, .v (.int .i64 y)), (3, .v (.int .i64 (begY n))), (4, .v (.int .i64 n))]) (fun _ => []) (fun n => 1970 ≤ n ∧ (n ≤ y ∨ n = 1970)) (fun n => (y - n).toNat) 1970 [] [] (by omega) Gc.of ?_
  intro n hn
  have hb := begY_b (y := n) (by omega)
  refine run ?_
  refine r_ifd (fun h => ?_) (fun h => ?_)
  · have hs := begY_s n
    refine run ?_
    refine r_ifd (fun h2 => ?_) (fun h2 => ?_)
    · rw [show yearL n = 366 from if_pos h2] at hs
      refine run ?_
      exact ⟨n + 1, [], [], Gc.of, by omega, by omega⟩
    · rw [show yearL n = 365 from if_neg h2] at hs
      refine run ?_
      exact ⟨n + 1, [], [], Gc.of, by omega, by omega⟩
  · by_cases hy : y < 1970
    · obtain rfl : n = 1970 := by omega
      refine run ?_
      refine r_loop_of (σ := Int) (fun k => [(0, .v (.int .i64 y)), (3, .v (.int .i64 (begY (k + 1)))), (5, .v (.int .i64 k))]) (fun _ => []) (fun k => y ≤ k + 1 ∧ k ≤ 1969) (fun k => (k + 1 - y).toNat) 1969 [] [] (by omega) Gc.of ?_
      intro k hk
      have hbk := begY_b (y := k + 1) (by omega)
      refine run ?_
      refine r_ifd (fun h => ?_) (fun h => ?_)
      · have hs := begY_s k
        have hbk2 := begY_b (y := k) (by omega)
        have e1 : k - 1 + 1 = k := by omega
        refine run ?_
        refine r_ifd (fun h2 => ?_) (fun h2 => ?_)
        · rw [show yearL k = 366 from if_pos h2] at hs
          refine run ?_
          exact ⟨k - 1, [], [], Gc.of (hf := by rw [e1]; (simp only [go_sem, ↓reduceIte, Nat.reduceEqDiff, Nat.reduceMul, Nat.reduceAdd, Nat.reduceSub, Nat.reduceLT, Nat.reduceGT, Nat.reduceLeDiff, Nat.reduceBEq, Int.reduceLT, Int.reduceLE, Int.reduceNe, Int.reduceEq, Int.reduceToNat, Int.reduceAdd, Int.reduceSub, Int.reduceMul, Int.reduceNeg, Nat.reducePow, Int.reducePow, Nat.reduceSubDiff, decide_true, decide_false, reduceCtorEq, or_self, or_false, false_or, or_true, true_or, if_false, gt_iff_lt, ge_iff_le, ne_eq, not_true_eq_false, not_false_eq_true, and_self, beq_self_eq_true, Bool.false_eq_true]; try (repeat (first | exact True.intro | exact Wk.refl _ | exact Wk.nil _ _ | exact Wk.dead _ | exact Wk.bT (by assumption) | exact Wk.bF (by assumption) | exact Wk.eqI (by omega) | exact WkS.refl _ | exact Wks.same _ | exact Wks.nil | exact WkS.nil | refine And.intro ?_ ?_ | refine Wk.aggs ?_ | refine Wk.tups ?_ | refine Wks.cons ?_ ?_ | refine WkS.cons (by first | exact fun _ => rfl | exact fun h => absurd h Bool.false_ne_true) ?_ ?_ ?_ | assumption | exact (fun h => h) | exact (fun h => absurd h Bool.false_ne_true) | intro _)))), by omega, by omega⟩
        · rw [show yearL k = 365 from if_neg h2] at hs
          refine run ?_
          exact ⟨k - 1, [], [], Gc.of (hf := by rw [e1]; (simp only [go_sem, ↓reduceIte, Nat.reduceEqDiff, Nat.reduceMul, Nat.reduceAdd, Nat.reduceSub, Nat.reduceLT, Nat.reduceGT, Nat.reduceLeDiff, Nat.reduceBEq, Int.reduceLT, Int.reduceLE, Int.reduceNe, Int.reduceEq, Int.reduceToNat, Int.reduceAdd, Int.reduceSub, Int.reduceMul, Int.reduceNeg, Nat.reducePow, Int.reducePow, Nat.reduceSubDiff, decide_true, decide_false, reduceCtorEq, or_self, or_false, false_or, or_true, true_or, if_false, gt_iff_lt, ge_iff_le, ne_eq, not_true_eq_false, not_false_eq_true, and_self, beq_self_eq_true, Bool.false_eq_true]; try (repeat (first | exact True.intro | exact Wk.refl _ | exact Wk.nil _ _ | exact Wk.dead _ | exact Wk.bT (by assumption) | exact Wk.bF (by assumption) | exact Wk.eqI (by omega) | exact WkS.refl _ | exact Wks.same _ | exact Wks.nil | exact WkS.nil | refine And.intro ?_ ?_ | refine Wk.aggs ?_ | refine Wk.tups ?_ | refine Wks.cons ?_ ?_ | refine WkS.cons (by first | exact fun _ => rfl | exact fun h => absurd h Bool.false_ne_true) ?_ ?_ ?_ | assumption | exact (fun h => h) | exact (fun h => absurd h Bool.false_ne_true) | intro _)))), by omega, by omega⟩
      · obtain rfl : y = k + 1 := by omega
        refine run ?_
        exact r_end [] []
    · obtain rfl : n = y := by omega
      refine run ?_
      refine r_loop_of (σ := Unit) (fun _ => [(0, .v (.int .i64 n)), (3, .v (.int .i64 (begY n))), (5, .v (.int .i64 1969))]) (fun _ => []) (fun _ => True) (fun _ => 0) () [] [] trivial Gc.of ?_
      intro _ _
      refine run ?_
      exact r_end [] []
instance (y : Int) : Con Try.prog F.spec_l11Begin [.v (.int .i64 y)] (1900 ≤ y ∧ y ≤ 2201) (.v (.int .i64 (begY y))) [] := ⟨fun h => spec_l11Begin y h⟩

set_option linter.unusedSimpArgs false in
set_option maxHeartbeats 4000000 in
theorem impl_DayOf (y m d : Int) : CallsT Try.prog [] F.impl_DayOf [.v (.int .i64 y), .v (.int .i64 m), .v (.int .i64 d)] (.tup [.v (.int .i64 (dayF y m d)), .v (.bool (decide (dayP y m d)))]) [] := by
  refine fnT C.impl_DayOf ?_
  refine run ?_
  refine r_ifd (fun h => ?_) (fun h => ?_)
  · rw [show dayF y m d = 0 from if_neg h, decide_eq_false h]
    refine run ?_
    exact r_end [] []
  have h : dayP y m d := Decidable.not_not.1 h
  have hm := dayP_m h
  have hb := begY_b (y := y) ⟨hm.1.1, by have := hm.1.2; omega⟩
  have hy := hm.1
  have hm2 := hm.2
  have hd := h.2
  have hd1 := h.1
  have hml := monthL_b y m
  unfold yearP at hy
  rw [show dayF y m d = dayV y m d from if_pos h, decide_eq_true h]
  refine run ?_
  refine r_loop_of (σ := Nat) (fun k => [(0, .v (.int .i64 y)), (1, .v (.int .i64 m)), (8, .v (.int .i64 (begY y + d - 1 + begM y k))), (9, .v (.int .i64 ((k : Int) + 1)))]) (fun _ => []) (fun k => (k : Int) + 1 ≤ m) (fun k => (m - k).toNat) 0 [] [] (by omega) (Gc.of (hf := by simp only [begM]; (simp only [go_sem, ↓reduceIte, Nat.reduceEqDiff, Nat.reduceMul, Nat.reduceAdd, Nat.reduceSub, Nat.reduceLT, Nat.reduceGT, Nat.reduceLeDiff, Nat.reduceBEq, Int.reduceLT, Int.reduceLE, Int.reduceNe, Int.reduceEq, Int.reduceToNat, Int.reduceAdd, Int.reduceSub, Int.reduceMul, Int.reduceNeg, Nat.reducePow, Int.reducePow, Nat.reduceSubDiff, decide_true, decide_false, reduceCtorEq, or_self, or_false, false_or, or_true, true_or, if_false, gt_iff_lt, ge_iff_le, ne_eq, not_true_eq_false, not_false_eq_true, and_self, beq_self_eq_true, Bool.false_eq_true]; try (repeat (first | exact True.intro | exact Wk.refl _ | exact Wk.nil _ _ | exact Wk.dead _ | exact Wk.bT (by assumption) | exact Wk.bF (by assumption) | exact Wk.eqI (by omega) | exact WkS.refl _ | exact Wks.same _ | exact Wks.nil | exact WkS.nil | refine And.intro ?_ ?_ | refine Wk.aggs ?_ | refine Wk.tups ?_ | refine Wks.cons ?_ ?_ | refine WkS.cons (by first | exact fun _ => rfl | exact fun h => absurd h Bool.false_ne_true) ?_ ?_ ?_ | assumption | exact (fun h => h) | exact (fun h => absurd h Bool.false_ne_true) | intro _))))) ?_
  intro k hk
  have hbm := begM_b y k
  refine run ?_
  refine r_ifd (fun h2 => ?_) (fun h2 => ?_)
  · have hl := longM_b y ((k : Int) + 1)
    have e : monthL y ((k : Int) + 1) = longM y ((k : Int) + 1) := monthL_at ⟨hm.1, by omega, by omega⟩
    have hs : begM y (k + 1) = begM y k + longM y ((k : Int) + 1) := rfl
    refine run ?_
    exact ⟨k + 1, [], [], Gc.of, by omega, by omega⟩
  · have e : (m - 1).toNat = k := by omega
    rw [dayV, e]
    refine run ?_
    exact r_end [] []
instance (y m d : Int) : Con Try.prog F.impl_DayOf [.v (.int .i64 y), .v (.int .i64 m), .v (.int .i64 d)] True (.tup [.v (.int .i64 (dayF y m d)), .v (.bool (decide (dayP y m d)))]) [] := ⟨fun _ => impl_DayOf y m d⟩

set_option linter.unusedSimpArgs false in
set_option maxHeartbeats 4000000 in
theorem spec_DayOf (y m d : Int) : CallsT Try.prog [] F.spec_DayOf [.v (.int .i64 y), .v (.int .i64 m), .v (.int .i64 d)] (.tup [.v (.int .i64 (dayF y m d)), .v (.bool (decide (dayP y m d)))]) [] := by
  refine fnT C.spec_DayOf ?_
  refine run ?_
  refine r_ifd (fun h => ?_) (fun h => ?_)
  · rw [show dayF y m d = 0 from if_neg h, decide_eq_false h]
    refine run ?_
    exact r_end [] []
  have h : dayP y m d := Decidable.not_not.1 h
  have hm := dayP_m h
  have hb := begY_b (y := y) ⟨hm.1.1, by have := hm.1.2; omega⟩
  have hy := hm.1
  have hm2 := hm.2
  have hd := h.2
  have hd1 := h.1
  have hml := monthL_b y m
  unfold yearP at hy
  rw [show dayF y m d = dayV y m d from if_pos h, decide_eq_true h]
  refine run ?_
  refine r_loop_of (σ := Nat) (fun k => [(0, .v (.int .i64 y)), (1, .v (.int .i64 m)), (2, .v (.int .i64 d)), (8, .v (.int .i64 (begY y + begM y k))), (9, .v (.int .i64 ((k : Int) + 1)))]) (fun _ => []) (fun k => (k : Int) + 1 ≤ m) (fun k => (m - k).toNat) 0 [] [] (by omega) (Gc.of (hf := by simp only [begM]; (simp only [go_sem, ↓reduceIte, Nat.reduceEqDiff, Nat.reduceMul, Nat.reduceAdd, Nat.reduceSub, Nat.reduceLT, Nat.reduceGT, Nat.reduceLeDiff, Nat.reduceBEq, Int.reduceLT, Int.reduceLE, Int.reduceNe, Int.reduceEq, Int.reduceToNat, Int.reduceAdd, Int.reduceSub, Int.reduceMul, Int.reduceNeg, Nat.reducePow, Int.reducePow, Nat.reduceSubDiff, decide_true, decide_false, reduceCtorEq, or_self, or_false, false_or, or_true, true_or, if_false, gt_iff_lt, ge_iff_le, ne_eq, not_true_eq_false, not_false_eq_true, and_self, beq_self_eq_true, Bool.false_eq_true]; try (repeat (first | exact True.intro | exact Wk.refl _ | exact Wk.nil _ _ | exact Wk.dead _ | exact Wk.bT (by assumption) | exact Wk.bF (by assumption) | exact Wk.eqI (by omega) | exact WkS.refl _ | exact Wks.same _ | exact Wks.nil | exact WkS.nil | refine And.intro ?_ ?_ | refine Wk.aggs ?_ | refine Wk.tups ?_ | refine Wks.cons ?_ ?_ | refine WkS.cons (by first | exact fun _ => rfl | exact fun h => absurd h Bool.false_ne_true) ?_ ?_ ?_ | assumption | exact (fun h => h) | exact (fun h => absurd h Bool.false_ne_true) | intro _))))) ?_
  intro k hk
  have hbm := begM_b y k
  refine run ?_
  refine r_ifd (fun h2 => ?_) (fun h2 => ?_)
  · have hl := longM_b y ((k : Int) + 1)
    have hs : begM y (k + 1) = begM y k + longM y ((k : Int) + 1) := rfl
    refine run ?_
    exact ⟨k + 1, [], [], Gc.of, by omega, by omega⟩
  · have e : (m - 1).toNat = k := by omega
    rw [dayV, e]
    refine run ?_
    exact r_end [] []
instance (y m d : Int) : Con Try.prog F.spec_DayOf [.v (.int .i64 y), .v (.int .i64 m), .v (.int .i64 d)] True (.tup [.v (.int .i64 (dayF y m d)), .v (.bool (decide (dayP y m d)))]) [] := ⟨fun _ => spec_DayOf y m d⟩

set_option maxHeartbeats 4000000 in
theorem impl_WeekOf (d : Int) : CallsT Try.prog [] F.impl_WeekOf [.v (.int .i64 d)] (.v (.int .i64 (weekV d))) [] := by
  refine fnT C.impl_WeekOf ?_
  obtain ⟨h1, h2, h3⟩ := tmod7 d
  unfold weekV
  refine run ?_
  exact r_end [] []
instance (d : Int) : Con Try.prog F.impl_WeekOf [.v (.int .i64 d)] True (.v (.int .i64 (weekV d))) [] := ⟨fun _ => impl_WeekOf d⟩

set_option maxHeartbeats 4000000 in
theorem spec_WeekOf (d : Int) : CallsT Try.prog [] F.spec_WeekOf [.v (.int .i64 d)] (.v (.int .i64 (weekV d))) [] := by
  refine fnT C.spec_WeekOf ?_
  obtain ⟨h1, h2, h3⟩ := tmod7 d
  unfold weekV
  refine run ?_
  exact r_end [] []
instance (d : Int) : Con Try.prog F.spec_WeekOf [.v (.int .i64 d)] True (.v (.int .i64 (weekV d))) [] := ⟨fun _ => spec_WeekOf d⟩

set_option maxHeartbeats 4000000 in
theorem impl_OnOk (k d w : Int) : CallsT Try.prog [] F.impl_OnOk [.agg [.v (.int .i64 k), .v (.int .i64 d), .v (.int .i64 w)]] (.v (.bool (decide (onP k d w)))) [] := by
  refine fnT C.impl_OnOk ?_
  refine run ?_
  refine r_ifd (fun h => ?_) (fun h => ?_)
  · refine run ?_
    refine r_endb ?_
    unfold onP
    omega
  refine run ?_
  refine r_ifd (fun h2 => ?_) (fun h2 => ?_)
  · refine run ?_
    refine r_endb ?_
    unfold onP
    omega
  refine run ?_
  refine r_endb ?_
  unfold onP
  omega
instance (k d w : Int) : Con Try.prog F.impl_OnOk [.agg [.v (.int .i64 k), .v (.int .i64 d), .v (.int .i64 w)]] True (.v (.bool (decide (onP k d w)))) [] := ⟨fun _ => impl_OnOk k d w⟩

set_option maxHeartbeats 4000000 in
theorem spec_OnOk (k d w : Int) : CallsT Try.prog [] F.spec_OnOk [.agg [.v (.int .i64 k), .v (.int .i64 d), .v (.int .i64 w)]] (.v (.bool (decide (onP k d w)))) [] := by
  refine fnT C.spec_OnOk ?_
  refine run ?_
  refine r_ifd (fun h => ?_) (fun h => ?_)
  · refine run ?_
    refine r_endb ?_
    unfold onP
    omega
  refine run ?_
  refine r_ifd (fun h2 => ?_) (fun h2 => ?_)
  · refine run ?_
    refine r_endb ?_
    unfold onP
    omega
  refine run ?_
  refine r_ifd (fun h3 => ?_) (fun h3 => ?_)
  · refine run ?_
    refine r_endb ?_
    unfold onP
    omega
  refine run ?_
  refine r_endF ?_
  unfold onP
  omega
instance (k d w : Int) : Con Try.prog F.spec_OnOk [.agg [.v (.int .i64 k), .v (.int .i64 d), .v (.int .i64 w)]] True (.v (.bool (decide (onP k d w)))) [] := ⟨fun _ => spec_OnOk k d w⟩

end Go.TL

/- The day of a month that a rule tells, both sides. No conditions but those that are written. -/
namespace Go.TL
set_option linter.unusedSimpArgs false
open Go.Proofs Go.RowKit
attribute [local irreducible] wpOpsT wpT EndT Ex.seq Ex.block W

theorem lastD_b {y m : Int} (h : monthP y m) : -26000 ≤ lastD y m ∧ lastD y m ≤ 90000 := dayV_b (lastD_p h)
theorem lastF {y m : Int} (h : monthP y m) : dayF y m (monthL y m) = lastD y m := if_pos (lastD_p h)
theorem lastO {y m : Int} (h : monthP y m) : decide (dayP y m (monthL y m)) = true := decide_eq_true (lastD_p h)
theorem day_last {y m d : Int} (h : d ≤ monthL y m) : dayV y m d ≤ lastD y m := by
  unfold lastD dayV
  omega
theorem onF_yes {y m k d w : Int} (h : onY y m k d w) : onF y m k d w = onD y m k d w := if_pos h
theorem onF_no {y m k d w : Int} (h : ¬ onY y m k d w) : onF y m k d w = 0 := if_neg h
theorem onD_2 {y m d w : Int} : onD y m 2 d w = lastD y m - (lastD y m + 4 - w) % 7 := if_pos rfl
theorem onD_3 {y m d w : Int} : onD y m 3 d w = dayV y m d + (w - (dayV y m d + 4)) % 7 := (if_neg (by decide)).trans (if_pos rfl)
theorem onD_1 {y m d w : Int} : onD y m 1 d w = dayV y m d := (if_neg (by decide)).trans (if_neg (by decide))
theorem onY_of {y m k d w : Int} (h1 : onP k d w) (h2 : monthP y m) (h3 : d ≤ monthL y m) (h : k = 3 → onD y m 3 d w ≤ lastD y m) : onY y m k d w := by
  refine ⟨h1, h2, h3, ?_⟩
  rcases h1 with ⟨rfl, _⟩ | ⟨rfl, _⟩ | ⟨rfl, _⟩
  · rw [onD_1]; exact day_last h3
  · rw [onD_2]; omega
  · exact h rfl

set_option linter.unusedSimpArgs false in
set_option maxHeartbeats 4000000 in
theorem impl_OnDay (y m k d w : Int) : CallsT Try.prog [] F.impl_OnDay [.v (.int .i64 y), .v (.int .i64 m), .agg [.v (.int .i64 k), .v (.int .i64 d), .v (.int .i64 w)]] (.tup [.v (.int .i64 (onF y m k d w)), .v (.bool (decide (onY y m k d w)))]) [] := by
  refine fnT C.impl_OnDay ?_
  have hml := monthL_b y m
  refine run ?_
  refine r_ifd (fun h => ?_) (fun h => ?_)
  · have hn : ¬ onY y m k d w := fun hy => by
      rcases h with (h | h) | h
      · exact h hy.1
      · exact monthL_0.1 h hy.2.1
      · have := hy.2.2.1; omega
    rw [onF_no hn, decide_eq_false hn]
    refine run ?_
    exact r_end [] []
  have h1 : onP k d w := Decidable.not_not.1 (not_or.1 (not_or.1 h).1).1
  have h2 : monthP y m := Decidable.not_not.1 fun hm => (not_or.1 (not_or.1 h).1).2 (monthL_0.2 hm)
  have h3 : d ≤ monthL y m := by have := (not_or.1 h).2; omega
  clear h
  have hlb := lastD_b h2
  have hlf := lastF h2
  have hlo := lastO h2
  have hw : weekV (lastD y m) = (lastD y m + 4) % 7 := rfl
  have hw2 : weekV (dayV y m d) = (dayV y m d + 4) % 7 := rfl
  have hwr : 0 ≤ w ∧ w ≤ 6 := by rcases h1 with h | h | h <;> omega
  refine run ?_
  rw [hlf]
  refine r_ifd (fun h4 => ?_) (fun h4 => ?_)
  · subst h4
    have hy : onY y m 2 d w := onY_of h1 h2 h3 (fun e => by omega)
    rw [onF_yes hy, decide_eq_true hy, onD_2]
    refine run ?_
    exact r_end [] []
  have hd1 : 1 ≤ d := by rcases h1 with h | h | h <;> omega
  have hdp : dayP y m d := ⟨hd1, h3⟩
  have hdf : dayF y m d = dayV y m d := if_pos hdp
  have hdb := dayV_b hdp
  refine run ?_
  rw [hdf]
  refine r_ifd (fun h5 => ?_) (fun h5 => ?_)
  · subst h5
    have e3 := onD_3 (y := y) (m := m) (d := d) (w := w)
    refine run ?_
    refine r_ifd (fun h6 => ?_) (fun h6 => ?_)
    · have hn : ¬ onY y m 3 d w := fun hy => by have := hy.2.2.2; omega
      rw [onF_no hn, decide_eq_false hn]
      refine run ?_
      exact r_end [] []
    · have hy : onY y m 3 d w := onY_of h1 h2 h3 (fun _ => by omega)
      rw [onF_yes hy, decide_eq_true hy, onD_3]
      refine run ?_
      exact r_end [] []
  · have hk : k = 1 := by rcases h1 with h | h | h <;> omega
    subst hk
    have hy : onY y m 1 d w := onY_of h1 h2 h3 (fun e => by omega)
    have hle := day_last h3
    rw [onF_yes hy, decide_eq_true hy, onD_1]
    refine run ?_
    exact r_end [] []
instance (y m k d w : Int) : Con Try.prog F.impl_OnDay [.v (.int .i64 y), .v (.int .i64 m), .agg [.v (.int .i64 k), .v (.int .i64 d), .v (.int .i64 w)]] True (.tup [.v (.int .i64 (onF y m k d w)), .v (.bool (decide (onY y m k d w)))]) [] := ⟨fun _ => impl_OnDay y m k d w⟩

set_option linter.unusedSimpArgs false in
set_option maxHeartbeats 4000000 in
theorem spec_OnDay (y m k d w : Int) : CallsT Try.prog [] F.spec_OnDay [.v (.int .i64 y), .v (.int .i64 m), .agg [.v (.int .i64 k), .v (.int .i64 d), .v (.int .i64 w)]] (.tup [.v (.int .i64 (onF y m k d w)), .v (.bool (decide (onY y m k d w)))]) [] := by
  refine fnT C.spec_OnDay ?_
  have hml := monthL_b y m
  refine run ?_
  refine r_ifd (fun h => ?_) (fun h => ?_)
  · have hn : ¬ onY y m k d w := fun hy => by
      rcases h with h | h
      · exact h hy.1
      · exact monthL_0.1 h hy.2.1
    rw [onF_no hn, decide_eq_false hn]
    refine run ?_
    exact r_end [] []
  have h1 : onP k d w := Decidable.not_not.1 (not_or.1 h).1
  have h2 : monthP y m := Decidable.not_not.1 fun hm => (not_or.1 h).2 (monthL_0.2 hm)
  clear h
  have hlb := lastD_b h2
  have hlf := lastF h2
  have hlo := lastO h2
  have hwr : 0 ≤ w ∧ w ≤ 6 := by rcases h1 with h | h | h <;> omega
  refine run ?_
  refine r_ifd (fun h4 => ?_) (fun h4 => ?_)
  · subst h4
    have h3 : d ≤ monthL y m := by have := (longM_b y m); rw [monthL_at h2]; rcases h1 with h | h | h <;> omega
    have hy : onY y m 2 d w := onY_of h1 h2 h3 (fun e => by omega)
    rw [onF_yes hy, decide_eq_true hy, onD_2]
    refine run ?_
    rw [hlf]
    refine r_loop_of (σ := Nat) (fun j => [(5, .ptr 0 [] 0), (8, .v (.int .i64 (lastD y m - (j : Nat))))]) (fun _ => [⟨0, true, [.v (.int .i64 2), .v (.int .i64 d), .v (.int .i64 w)]⟩]) (fun j => (j : Int) ≤ (lastD y m + 4 - w) % 7) (fun j => 7 - j) 0 [0] [] (by omega) Gc.of ?_
    intro j hj
    have hw : weekV (lastD y m - (j : Nat)) = (lastD y m - (j : Nat) + 4) % 7 := rfl
    refine run ?_
    refine r_ifd (fun h5 => ?_) (fun h5 => ?_)
    · refine run ?_
      exact ⟨j + 1, [0], [], Gc.of, by omega, by omega⟩
    · refine run ?_
      exact r_end [] []
  refine run ?_
  refine r_ifd (fun h5 => ?_) (fun h5 => ?_)
  · by_cases hdp : dayP y m d
    · have hk : k = 1 := h5.resolve_left (fun hh => hh hdp)
      subst hk
      have hy : onY y m 1 d w := onY_of h1 h2 hdp.2 (fun e => by omega)
      rw [onF_yes hy, decide_eq_true hy, onD_1, show dayF y m d = dayV y m d from if_pos hdp, decide_eq_true hdp]
      refine run ?_
      exact r_end [] []
    · have hn : ¬ onY y m k d w := fun hy => hdp ⟨by rcases h1 with h | h | h <;> omega, hy.2.2.1⟩
      rw [onF_no hn, decide_eq_false hn, show dayF y m d = 0 from if_neg hdp, decide_eq_false hdp]
      refine run ?_
      exact r_end [] []
  have hdp : dayP y m d := Decidable.not_not.1 (not_or.1 h5).1
  have hk : k = 3 := by have := (not_or.1 h5).2; rcases h1 with h | h | h <;> omega
  subst hk
  have hdf : dayF y m d = dayV y m d := if_pos hdp
  have hdb := dayV_b hdp
  have e3 := onD_3 (y := y) (m := m) (d := d) (w := w)
  refine run ?_
  rw [hdf, hlf]
  refine r_loop_of (σ := Nat) (fun j => [(5, .ptr 0 [] 0), (10, .v (.int .i64 (dayV y m d + (j : Nat)))), (12, .v (.int .i64 (lastD y m)))]) (fun _ => [⟨0, true, [.v (.int .i64 3), .v (.int .i64 d), .v (.int .i64 w)]⟩]) (fun j => (j : Int) ≤ (w - (dayV y m d + 4)) % 7) (fun j => 7 - j) 0 [0] [] (by omega) Gc.of ?_
  intro j hj
  have hw : weekV (dayV y m d + (j : Nat)) = (dayV y m d + (j : Nat) + 4) % 7 := rfl
  refine run ?_
  refine r_ifd (fun h6 => ?_) (fun h6 => ?_)
  · refine run ?_
    exact ⟨j + 1, [0], [], Gc.of, by omega, by omega⟩
  · refine run ?_
    refine r_ifd (fun h7 => ?_) (fun h7 => ?_)
    · have hn : ¬ onY y m 3 d w := fun hy => by have := hy.2.2.2; omega
      rw [onF_no hn, decide_eq_false hn]
      refine run ?_
      exact r_end [] []
    · have hy : onY y m 3 d w := onY_of h1 h2 hdp.2 (fun _ => by omega)
      rw [onF_yes hy, decide_eq_true hy, onD_3]
      refine run ?_
      exact r_end [] []
instance (y m k d w : Int) : Con Try.prog F.spec_OnDay [.v (.int .i64 y), .v (.int .i64 m), .agg [.v (.int .i64 k), .v (.int .i64 d), .v (.int .i64 w)]] True (.tup [.v (.int .i64 (onF y m k d w)), .v (.bool (decide (onY y m k d w)))]) [] := ⟨fun _ => spec_OnDay y m k d w⟩

end Go.TL
