/- What clocks are ahead of at a minute, what day it is, what clocks show: by the program. No conditions but those that are written. -/
import Derived.Test.YtkecbkljfpebhaaJX6X11
import Derived.Test.YtkecbkljfpebhaaTLm
namespace Go.TL
set_option linter.unusedSimpArgs false
open Go.Proofs Go.RowKit
attribute [local irreducible] wpOpsT wpT EndT Ex.seq Ex.block W

/-- What clocks are ahead of behind the first shifts that are not later. -/
def atF (f : Int) (l : List ShiftV) (m : Int) : Nat → Int
  | 0 => f
  | i + 1 => if (nth l (i : Nat)).at' ≤ m then (nth l (i : Nat)).off else atF f l m i
def tabAt (f : Int) (l : List ShiftV) (m : Int) : Int := if tableP f l then atF f l m l.length else 0
theorem atF_b {f : Int} {l : List ShiftV} (h : tableP f l) (m : Int) : ∀ i, i ≤ l.length → -2000 ≤ atF f l m i ∧ atF f l m i ≤ 2000
  | 0, _ => h.1
  | i + 1, hi => by
    unfold atF
    split
    · exact (h.2.2 i (by omega)).2.2.1
    · exact atF_b h m i (by omega)

set_option maxHeartbeats 4000000 in
theorem impl_TableAt (k : Nat) (f : Int) (l : List ShiftV) (m : Int) (hpre : l.length ≤ 1000000000) : CallsT Try.prog [] F.impl_TableAt [.agg [.v (.int .i64 f), .sl false k l.length 2 (rowT shiftC l)], .v (.int .i64 m)] (.v (.int .i64 (tabAt f l m))) [] := by
  refine fnT C.impl_TableAt ?_
  refine run ?_
  refine r_ifd (fun h => ?_) (fun h => ?_)
  · rw [show tabAt f l m = 0 from if_neg h]
    refine run ?_
    exact r_end [] []
  have h := Decidable.not_not.1 h
  rw [show tabAt f l m = atF f l m l.length from if_pos h]
  refine run ?_
  refine r_for l.length (fun i => [(1, .v (.int .i64 m)), (2, .ptr 0 [] 0), (5, .v (.int .i64 (atF f l m i))), (14, .sl false k l.length 2 (rowT shiftC l)), (15, .v (.int .i64 l.length)), (16, .v (.int .i64 i))]) (fun _ => [⟨0, true, [.v (.int .i64 f), .sl false k l.length 2 (rowT shiftC l)]⟩]) (fun _ => True) [0] [] trivial Gc.of (fun i hi _ => ?_) (fun _ => ?_)
  · refine run ?_
    refine r_ifd (fun h1 => ?_) (fun h1 => ?_)
    · have e : atF f l m (i + 1) = (nth l (i : Nat)).off := if_pos h1
      rw [e]
      refine run ?_
      exact ⟨[0], [], Gc.of, trivial⟩
    · have e : atF f l m (i + 1) = atF f l m i := if_neg h1
      rw [e]
      refine run ?_
      exact ⟨[0], [], Gc.of, trivial⟩
  · refine run ?_
    exact r_end [] []
instance (k : Nat) (f : Int) (l : List ShiftV) (m : Int) : Con Try.prog F.impl_TableAt [.agg [.v (.int .i64 f), .sl false k l.length 2 (rowT shiftC l)], .v (.int .i64 m)] (l.length ≤ 1000000000) (.v (.int .i64 (tabAt f l m))) [] := ⟨fun h => impl_TableAt k f l m h⟩

/-- The year of a day; its month. -/
theorem year_ex {day : Int} : ∀ n : Nat, begY 1900 ≤ day → day < begY (1900 + (n : Int)) → ∃ k : Nat, k < n ∧ begY (1900 + (k : Int)) ≤ day ∧ day < begY (1900 + (k : Int) + 1)
  | 0, h0, h1 => by simp at h1; omega
  | n + 1, h0, h1 => by
    rcases Int.lt_or_le day (begY (1900 + (n : Int))) with h | h
    · obtain ⟨k, h2, h3, h4⟩ := year_ex n h0 h
      exact ⟨k, by omega, h3, h4⟩
    · refine ⟨n, by omega, h, ?_⟩
      rw [show (1900 : Int) + (n : Int) + 1 = 1900 + ((n + 1 : Nat) : Int) by omega]
      exact h1
theorem month_ex {y left : Int} : ∀ n : Nat, 0 ≤ left → left < begM y n → ∃ k : Nat, k < n ∧ begM y k ≤ left ∧ left < begM y (k + 1)
  | 0, h0, h1 => by simp only [begM] at h1; omega
  | n + 1, h0, h1 => by
    rcases Int.lt_or_le left (begM y n) with h | h
    · obtain ⟨k, h2, h3, h4⟩ := month_ex n h0 h
      exact ⟨k, by omega, h3, h4⟩
    · exact ⟨n, by omega, h, h1⟩
theorem begM_mono (y : Int) {a b : Nat} (h : a ≤ b) : begM y a ≤ begM y b := by
  induction b with
  | zero => rw [Nat.le_zero.1 h]; exact Int.le_refl _
  | succ b ih =>
    rcases Nat.eq_or_lt_of_le h with rfl | h
    · exact Int.le_refl _
    · have := ih (by omega)
      have := longM_b y (b + 1)
      rw [begM]
      omega

set_option linter.unusedSimpArgs false in
theorem impl_DateOfX (day : Int) (h0 : begY 1900 ≤ day) (h1 : day < begY 2201) : ∃ y m d : Int, dayP y m d ∧ dayV y m d = day ∧ CallsT Try.prog [] F.impl_DateOf [.v (.int .i64 day)] (.tup [.v (.int .i64 y), .v (.int .i64 m), .v (.int .i64 d), .v (.bool true)]) [] := by
  obtain ⟨k, hk, hk1, hk2⟩ := year_ex 301 h0 h1
  obtain ⟨Y, hY⟩ : ∃ Y : Int, Y = 1900 + (k : Int) := ⟨_, rfl⟩
  rw [← hY] at hk1 hk2
  have hYs := begY_s Y
  obtain ⟨j, hj, hj1, hj2⟩ := month_ex (y := Y) (left := day - begY Y) 12 (by omega) (by rw [begM_12]; omega)
  have hjs : begM Y (j + 1) = begM Y j + longM Y ((j : Int) + 1) := rfl
  have hmp : monthP Y ((j : Int) + 1) := ⟨⟨by omega, by omega⟩, by omega, by omega⟩
  have hml := monthL_at hmp
  refine ⟨Y, (j : Int) + 1, day - begY Y - begM Y j + 1, ⟨by omega, by omega⟩, ?_, ?_⟩
  · unfold dayV
    rw [show ((j : Int) + 1 - 1).toNat = j by omega]
    omega
  have e19 : begY 1900 = -25567 := by decide
  have e22 : begY 2201 = 84371 := by decide
  have hYb := begY_b (y := Y) (by omega)
  refine fnT C.impl_DateOf ?_
  refine run ?_
  refine r_loop_of (σ := Int) (fun y => [(0, .v (.int .i64 (day - begY y))), (6, .v (.int .i64 y))]) (fun _ => []) (fun y => 1900 ≤ y ∧ y ≤ Y) (fun y => (Y - y).toNat) 1900 [] [] (by omega) Gc.of ?_
  intro y hy
  have hyb := begY_b (y := y) (by omega)
  have hys := begY_s y
  have hyl := yearL_b y
  have hmo : y < Y → begY (y + 1) ≤ begY Y := fun h => begY_mono (by omega)
  refine run ?_
  refine r_ifd (fun h2 => ?_) (fun h2 => ?_)
  · have hlt : y < Y := by
      rcases Int.lt_or_le y Y with h | h
      · exact h
      · obtain rfl : y = Y := by omega
        omega
    refine run ?_
    exact ⟨y + 1, [], [], Gc.of, by omega, by omega⟩
  · obtain rfl : y = Y := by
      rcases Int.lt_or_le y Y with h | h
      · have := hmo h; omega
      · omega
    refine run ?_
    refine r_loop_of (σ := Nat) (fun q => [(0, .v (.int .i64 (day - begY y - begM y q))), (6, .v (.int .i64 y)), (7, .v (.int .i64 ((q : Int) + 1)))]) (fun _ => []) (fun q => q ≤ j) (fun q => j - q) 0 [] [] (Nat.zero_le _) (Gc.of (hf := by simp only [begM]; (simp only [go_sem, ↓reduceIte, Nat.reduceEqDiff, Nat.reduceMul, Nat.reduceAdd, Nat.reduceSub, Nat.reduceLT, Nat.reduceGT, Nat.reduceLeDiff, Nat.reduceBEq, Int.reduceLT, Int.reduceLE, Int.reduceNe, Int.reduceEq, Int.reduceToNat, Int.reduceAdd, Int.reduceSub, Int.reduceMul, Int.reduceNeg, Nat.reducePow, Int.reducePow, Nat.reduceSubDiff, decide_true, decide_false, reduceCtorEq, or_self, or_false, false_or, or_true, true_or, if_false, gt_iff_lt, ge_iff_le, ne_eq, not_true_eq_false, not_false_eq_true, and_self, beq_self_eq_true, Bool.false_eq_true]; try (repeat (first | exact True.intro | exact Wk.refl _ | exact Wk.nil _ _ | exact Wk.dead _ | exact Wk.bT (by assumption) | exact Wk.bF (by assumption) | exact Wk.eqI (by omega) | exact WkS.refl _ | exact Wks.same _ | exact Wks.nil | exact WkS.nil | refine And.intro ?_ ?_ | refine Wk.aggs ?_ | refine Wk.tups ?_ | refine Wks.cons ?_ ?_ | refine WkS.cons (by first | exact fun _ => rfl | exact fun h => absurd h Bool.false_ne_true) ?_ ?_ ?_ | assumption | exact (fun h => h) | exact (fun h => absurd h Bool.false_ne_true) | intro _))))) ?_
    intro q hq
    have hqb := begM_b y q
    have hqs : begM y (q + 1) = begM y q + longM y ((q : Int) + 1) := rfl
    have hql := longM_b y ((q : Int) + 1)
    have hqm : monthL y ((q : Int) + 1) = longM y ((q : Int) + 1) := monthL_at ⟨hmp.1, by omega, by omega⟩
    have hmo2 : q < j → begM y (q + 1) ≤ begM y j := fun h => begM_mono y h
    refine run ?_
    refine r_ifd (fun h3 => ?_) (fun h3 => ?_)
    · have hlt : q < j := by
        rcases Nat.lt_or_ge q j with h | h
        · exact h
        · obtain rfl : q = j := by omega
          omega
      refine run ?_
      exact ⟨q + 1, [], [], Gc.of, by omega, by omega⟩
    · obtain rfl : q = j := by
        rcases Nat.lt_or_ge q j with h | h
        · have := hmo2 h; omega
        · omega
      refine run ?_
      exact r_end [] []

theorem tmod1440 (x : Int) : (x.tmod 1440 = x % 1440 ∨ x.tmod 1440 = x % 1440 - 1440) ∧ -1440 < x.tmod 1440 ∧ x.tmod 1440 < 1440 := by
  rcases Int.le_total 0 x with h | h
  · rw [Int.tmod_eq_emod_of_nonneg h]; omega
  · obtain ⟨n, rfl⟩ : ∃ n, x = -n := ⟨-x, by omega⟩
    rw [Int.neg_tmod, Int.tmod_eq_emod_of_nonneg (by omega)]; omega

set_option linter.unusedSimpArgs false in
theorem impl_TableLocalX (k : Nat) (f : Int) (l : List ShiftV) (m : Int) (hl : l.length ≤ 1000000000) (ht : tableP f l) (hm : -1000000000 ≤ m ∧ m ≤ 1000000000) (h0 : 1440 * begY 1900 ≤ m + tabAt f l m) (h1 : m + tabAt f l m < 1440 * begY 2201) :
    ∃ y a d r : Int, dayP y a d ∧ 1440 * dayV y a d + r = m + tabAt f l m ∧ CallsT Try.prog [] F.impl_TableLocal [.agg [.v (.int .i64 f), .sl false k l.length 2 (rowT shiftC l)], .v (.int .i64 m)] (.tup [.v (.int .i64 y), .v (.int .i64 a), .v (.int .i64 d), .v (.int .i64 r), .v (.bool true)]) [] := by
  have hb : -2000 ≤ tabAt f l m ∧ tabAt f l m ≤ 2000 := by
    unfold tabAt
    rw [if_pos ht]
    exact atF_b ht m l.length (Nat.le_refl _)
  obtain ⟨y, a, d, hd, hv, hc⟩ := impl_DateOfX ((m + tabAt f l m) / 1440) (by omega) (by omega)
  refine ⟨y, a, d, (m + tabAt f l m) % 1440, hd, by rw [hv]; omega, ?_⟩
  obtain ⟨t1, t2, t3⟩ := tmod1440 (m + tabAt f l m)
  have e1 : ((m + tabAt f l m).tmod 1440 + 1440) % 1440 = (m + tabAt f l m) % 1440 := by omega
  have e2 : ((m + tabAt f l m) - (m + tabAt f l m) % 1440).tdiv 1440 = (m + tabAt f l m) / 1440 := by
    rw [show (m + tabAt f l m) - (m + tabAt f l m) % 1440 = 1440 * ((m + tabAt f l m) / 1440) by omega]
    exact Int.mul_tdiv_cancel_left _ (by decide)
  refine fnT C.impl_TableLocal ?_
  refine run ?_
  refine r_ifd (fun h => ?_) (fun h => ?_)
  · rcases h with h | h
    · exact absurd ht h
    · exact absurd hm h
  refine run ?_
  rw [e1, e2, wrap64_in (by omega)]
  refine runC ?_
  refine r_callp true hc ?_
  refine run ?_
  exact r_end [] []

end Go.TL
