/- The law of clocks on trees. No conditions but those that are written. -/
import Derived.Test.YtkecbkljfpebhaaX24
import Derived.Test.YtkecbkljfpebhaaX27
namespace Go.TL
set_option linter.unusedSimpArgs false
open Go.Proofs Go.RowKit
attribute [local irreducible] wpOpsT wpT EndT Ex.seq Ex.block W

set_option linter.unusedSimpArgs false in
set_option maxHeartbeats 16000000 in
set_option maxHeartbeats 4000000 in
theorem laws_FnClocks (l : List Int) (hpre : (∀ x ∈ l, 0 ≤ x ∧ x < 256) ∧ l.length ≤ 140737488351232) : CallsT Try.prog [] F.laws_FnClocks [.sl false 0 l.length 1 (rowT u8C l)] (.v (.bool true)) [] := by
  refine fnT C.laws_FnClocks ?_
  have hl := hpre
  refine run ?_
  refine r_ifd (fun h => ?_) (fun h => ?_)
  · refine run ?_
    exact r_end [] []
  obtain ⟨rules, zones, links, n, hlen, hd⟩ := drawZoneTable_ex l hl
  have h300 := zt_300 rules zones links n
  have hnope := fun hh => (zt_nope (rules := rules) (zones := zones) (links := links) (n := n) hh).2
  have htab := fun hh => zt_table (rules := rules) (zones := zones) (links := links) (n := n) hh
  have hb := fun hh => zt_b (rules := rules) (zones := zones) (links := links) (n := n) hh
  refine runC ?_
  refine r_callp false hd ?_
  refine run ?_
  by_cases ho : ztO rules zones links n
  · have htp := htab ho
    have hbo := hb ho
    generalize ztS rules zones links n = S at *
    generalize ztF rules zones links n = f at *
    refine r_ifd (fun h => ?_) (fun h => ?_)
    · exact absurd ho h
    refine run ?_
    refine r_ifd (fun h => ?_) (fun h => ?_)
    · exact absurd htp h
    refine run ?_
    refine r_loop_of (σ := Nat) (fun i => [(5, .ptr 0 [] 0), (9, .v (.int .i64 (offB f S i))), (10, .v (.int .i64 ((i : Nat))))]) (fun _ => [⟨0, true, [.v (.int .i64 f), .sl false 0 S.length 2 (rowT shiftC S)]⟩]) (fun i => i ≤ S.length) (fun i => S.length - i) 0 [1] [] (Nat.zero_le _) Gc.of ?_
    intro i hi
    refine run ?_
    refine r_ifd (fun hc => ?_) (fun hc => ?_)
    · have hi : i < S.length := by omega
      obtain ⟨t1, t2⟩ := tabAt_shift htp hi
      have hx := hbo _ (nth_mem hi)
      have hs := (htp.2.2 i hi)
      have hs1 := hs.1
      have hs2 := hs.2.2.1
      have e19 : begY 1900 = -25567 := by decide
      have e22 : begY 2201 = 84371 := by decide
      obtain ⟨y, a, d, r, q1, q2, q3⟩ := impl_TableLocalX 1 f S (nth S (i : Nat)).at' (by omega) htp hs1 (by rw [t1]; omega) (by rw [t1]; omega)
      have q4 : dayF y a d = dayV y a d := if_pos q1
      have q5 := dayV_b q1
      have q6 : decide (dayP y a d) = true := decide_eq_true q1
      rw [t1] at q2
      refine run ?_
      refine r_callp true q3 ?_
      refine run ?_
      refine r_ifd (fun h => ?_) (fun _ => ?_)
      · exfalso
        rcases h with h | h
        · exact h q1
        · exact h (by rw [q4]; exact q2)
      refine run ?_
      exact ⟨i + 1, [0], [], Gc.of (hf := by simp only [offB_s]; (simp only [go_sem, ↓reduceIte, Nat.reduceEqDiff, Nat.reduceMul, Nat.reduceAdd, Nat.reduceSub, Nat.reduceLT, Nat.reduceGT, Nat.reduceLeDiff, Nat.reduceBEq, Int.reduceLT, Int.reduceLE, Int.reduceNe, Int.reduceEq, Int.reduceToNat, Int.reduceAdd, Int.reduceSub, Int.reduceMul, Int.reduceNeg, Nat.reducePow, Int.reducePow, Nat.reduceSubDiff, decide_true, decide_false, reduceCtorEq, or_self, or_false, false_or, or_true, true_or, if_false, gt_iff_lt, ge_iff_le, ne_eq, not_true_eq_false, not_false_eq_true, and_self, beq_self_eq_true, Bool.false_eq_true]; try (repeat (first | exact True.intro | exact Wk.refl _ | exact Wk.nil _ _ | exact Wk.dead _ | exact Wk.bT (by assumption) | exact Wk.bF (by assumption) | exact Wk.eqI (by omega) | exact WkS.refl _ | exact Wks.same _ | exact Wks.nil | exact WkS.nil | refine And.intro ?_ ?_ | refine Wk.aggs ?_ | refine Wk.tups ?_ | refine Wks.cons ?_ ?_ | refine WkS.cons (by first | exact fun _ => rfl | exact fun h => absurd h Bool.false_ne_true) ?_ ?_ ?_ | assumption | exact (fun h => h) | exact (fun h => absurd h Bool.false_ne_true) | intro _)))), by omega, by omega⟩
    · have hlast : tabAt f S (-1000000000) = f := by
        rw [tabAt_at htp (-1000000000) (i := 0) (Nat.zero_le _) (.inl rfl) ?_]
        · rfl
        · rcases Nat.eq_zero_or_pos S.length with h0 | h0
          · exact .inl h0.symm
          · have := hbo _ (nth_mem h0)
            exact .inr (by omega)
      refine run ?_
      rw [decide_eq_true hlast]
      exact r_end [] []
  · have hno := hnope ho
    refine r_ifd (fun h => ?_) (fun h => ?_)
    · refine run ?_
      rw [hno]
      refine run ?_
      exact r_end [] []
    · exact absurd ho h
instance (l : List Int) : Con Try.prog F.laws_FnClocks [.sl false 0 l.length 1 (rowT u8C l)] ((∀ x ∈ l, 0 ≤ x ∧ x < 256) ∧ l.length ≤ 140737488351232) (.v (.bool true)) [] := ⟨fun h => laws_FnClocks l h⟩

end Go.TL
