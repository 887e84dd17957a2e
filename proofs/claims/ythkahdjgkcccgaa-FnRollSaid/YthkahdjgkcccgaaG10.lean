/- Rolls that are drawn and right, their rows such as may grow. No conditions but those that are written. -/
import Derived.Test.YthkahdjgkcccgaaG9
import Derived.Test.YthkahdjgkcccgaaJM18M19
namespace Go.TL
set_option linter.unusedSimpArgs false
open Go.Proofs Go.RowKit
attribute [local irreducible] wpOpsT wpT EndT Ex.seq Ex.block W

@[go_sem high] theorem len_nilR {α : Type} {P : Program} {t : TypeId} (r : Nat) (l : List α) (S : Store) : lenT P S t (nilR r l) = if thereR l (S.at false r []) = true then (elemT P t).map fun _ => .v (.int .i64 l.length) else none := by cases l <;> rfl
def anH (l : List Int) (s : AnS) : Store := [⟨0, true, [.sl false 0 l.length 1 (rowT u8C l), .v (.int .i64 s.c.1), .v (.int .i64 s.c.2)]⟩, ⟨0, true, [.v (.int .i64 0), .v (.slice none 0 0), .v (.int .i64 0), .v (.slice none 0 0)]⟩, ⟨0, true, [.v (.int .i64 s.x.of), nilR 3 s.x.rels, .v (.int .i64 s.x.act), .ref 4 [] 0 s.x.order.length]⟩, ⟨5, !s.x.rels.isEmpty, rowT relO s.x.rels⟩, ⟨1, true, rowT i64C s.x.order⟩]

set_option linter.unusedSimpArgs false in
set_option maxHeartbeats 8000000 in
theorem right_rollS (l : List Int) (c0 : Int × Int) (most : Int) (hc0 : curP l c0.1) (hm : 0 ≤ most ∧ most ≤ 80) :
    ∃ (x : RollV) (c' : Int × Int), rollX x ∧ curP l c'.1 ∧ CallsT Try.prog [⟨0, true, [.sl false 0 l.length 1 (rowT u8C l), .v (.int .i64 c0.1), .v (.int .i64 c0.2)]⟩] F.spec_l7DrawRight [.ptr 0 [] 0, .v (.int .i64 most)] (.agg [.v (.int .i64 x.of), nilR 1 x.rels, .v (.int .i64 x.act), .ref 2 [] 0 x.order.length]) [⟨0, true, [.sl false 0 l.length 1 (rowT u8C l), .v (.int .i64 (c'.1)), .v (.int .i64 (c'.2))]⟩, ⟨5, !x.rels.isEmpty, rowT relO x.rels⟩, ⟨1, true, rowT i64C x.order⟩] := by
  obtain ⟨f, hf⟩ := Classical.axiomOfChoice (r := fun (c : Int × Int) (z : ByteArray × (Int × Int)) => curP l c.1 → z.1.size = 32 ∧ curP l z.2.1 ∧ CallsT Try.prog [⟨0, true, [.sl false 0 l.length 1 (rowT u8C l), .v (.int .i64 c.1), .v (.int .i64 c.2)]⟩] F.spec_l5DrawDigest [.ptr 0 [] 0] (.v (.string z.1)) [⟨0, true, [.sl false 0 l.length 1 (rowT u8C l), .v (.int .i64 z.2.1), .v (.int .i64 z.2.2)]⟩]) (fun c => by
    by_cases h : curP l c.1
    · obtain ⟨d, c', h1, h2, h3⟩ := digest_ex l c h
      exact ⟨(d, c'), fun _ => ⟨h1, h2, h3⟩⟩
    · exact ⟨(⟨#[]⟩, (0, 0)), fun h1 => absurd h1 h⟩)
  obtain ⟨of, c1, hof, hc1, h1⟩ := pick_ex l c0 [1, 3, 3, 5] hc0 ⟨by decide, by decide⟩
  have ho : ofP of := by unfold ofP; simp at hof; omega
  obtain ⟨o, c2, ⟨hol, hoP⟩, hc2, h2⟩ := cmds_ex l c1 of most hc1 ho (by omega)
  obtain ⟨v, c3, hc3, h3⟩ := once_ex l c2 20 hc2 (by omega)
  have hrun := runSt_ok (B := 320) (by omega) o (⟨of, [], 0, []⟩, []) (fun y hy hk => by have := (hoP y hy).2 hk; omega) (rollX_new ho) (fun t ht => absurd ht (Nat.not_lt_zero _))
  have hnew := spec_RollRunS 1 1 1 of [] 0 [] o (by decide) ⟨rollX_new ho, by omega⟩
  simp only [List.length_nil, rowT_nil] at hnew
  rw [show o.foldl runStep (⟨of, [], 0, []⟩, []) = runSt ⟨of, [], 0, []⟩ o from rfl] at hrun
  generalize runSt ⟨of, [], 0, []⟩ o = q at *
  obtain ⟨hqx, hqB⟩ := hrun
  dsimp only [rollA, rollB, List.cons_append, List.nil_append] at hnew
  cases v with
  | false =>
    refine ⟨q.1, c3, hqx, hc3, ?_⟩
    refine fnT C.spec_l7DrawRight ?_
    refine runC ?_
    refine r_call1p 0 (h1 1) ?_
    refine run ?_
    refine r_calln [0] h2 ?_
    refine runC ?_
    refine r_callp true hnew ?_
    refine runC ?_
    refine r_call1p 0 h3 ?_
    refine run ?_
    exact r_end [0, 4, 5] []
  | true =>
    have hB : nosB q.1.rels (899 + q.1.rels.length) := nosB_mono hqB (by omega)
    have hF := annF_ok (l := l) (f := f) (fun c hc => ⟨(hf c hc).1, (hf c hc).2.1⟩) 31 c3 q.1 hc3 hqx hB
    generalize hFe : annF f 31 c3 q.1 = R at hF
    refine ⟨R.2, R.1, hF.2, hF.1, ?_⟩
    clear hF
    refine fnT C.spec_l7DrawRight ?_
    refine runC ?_
    refine r_call1p 0 (h1 1) ?_
    refine run ?_
    refine r_calln [0] h2 ?_
    refine runC ?_
    refine r_callp true hnew ?_
    refine runC ?_
    refine r_call1p 0 h3 ?_
    refine run ?_
    refine r_loop_of (fun (_ : AnS) => [(0, .ptr 0 [] 0), (4, .ptr 1 [] 0), (6, .ptr 2 [] 0)]) (fun s => anH l s) (fun s => curP l s.c.1 ∧ rollX s.x ∧ nosB s.x.rels (899 + s.x.rels.length) ∧ ∃ m, 30 - s.x.rels.length < m ∧ annF f m s.c s.x = R) (fun s => 30 - s.x.rels.length) ⟨c3, q.1⟩ [0, 1, 7, 4, 5] [] ⟨hc3, hqx, hB, 31, by omega, hFe⟩ Gc.of (fun s hs => ?_)
    obtain ⟨c, x⟩ := s
    obtain ⟨hc, hx, hxB, m, hm, hR⟩ := hs
    dsimp only at hc hx hxB hm hR
    obtain ⟨m, rfl⟩ : ∃ k, m = k + 1 := ⟨m - 1, by omega⟩
    rw [annF] at hR
    have hfc := hf c hc
    have htx := rollX_tot hx
    have hlx : (x.rels.length : Int) ≤ 30 := hx.2.1
    dsimp only [anH]
    refine run ?_
    refine r_ifd (fun hlt => ?_) (fun hlt => ?_)
    · have hlt' : x.rels.length < 30 := by omega
      rw [if_pos hlt'] at hR
      have hak := ann_ok hx hlt' hxB hfc.1
      have hcp : cmdP 2 (900 + x.rels.length) 0 0 (f c).1 := by
        unfold cmdP
        rw [if_neg (by decide), if_pos rfl]
        exact ⟨by omega, by omega, by have := hfc.1; omega, rfl⟩
      have hsp := spec_RollApplyS 1 1 x.of x.rels x.act x.order 2 (900 + x.rels.length) 0 0 (f c).1 (bnd_tot (by omega)) (by omega) ⟨hx, hcp⟩
      rw [show applyR x.of x.rels x.act x.order 2 (900 + x.rels.length) 0 0 (f c).1 = applyC x (annC x (f c).1) from (if_pos ⟨hx, hcp⟩).symm] at hsp
      generalize applyC x (annC x (f c).1) = p at *
      dsimp only [rollA, rollB] at hsp
      refine runC ?_
      refine r_call1p 0 hfc.2.2 ?_
      refine runC ?_
      refine r_callp true hsp ?_ (ts1 := [.agg [.v (.int .i64 x.of), rowR 5 3 x.rels, .v (.int .i64 x.act), .ref 4 [] 0 x.order.length], .agg [.v (.int .i64 2), .v (.int .i64 (900 + x.rels.length)), .v (.int .i64 0), .v (.int .i64 0), .v (.string ((f c).1))]]) (hk := by (simp only [go_sem, ↓reduceIte, Nat.reduceEqDiff, Nat.reduceMul, Nat.reduceAdd, Nat.reduceSub, Nat.reduceLT, Nat.reduceGT, Nat.reduceLeDiff, Nat.reduceBEq, Int.reduceLT, Int.reduceLE, Int.reduceNe, Int.reduceEq, Int.reduceToNat, Int.reduceAdd, Int.reduceSub, Int.reduceMul, Int.reduceNeg, Nat.reducePow, Int.reducePow, Nat.reduceSubDiff, decide_true, decide_false, reduceCtorEq, or_self, or_false, false_or, or_true, true_or, if_false, gt_iff_lt, ge_iff_le, ne_eq, not_true_eq_false, not_false_eq_true, and_self, beq_self_eq_true, Bool.false_eq_true]; try (repeat (first | exact True.intro | exact Wk.refl _ | exact Wk.nilR _ _ _ | exact Wk.nil _ _ | exact Wk.dead _ | exact Wk.bT (by assumption) | exact Wk.bF (by assumption) | exact Wk.eqI (by omega) | exact WkS.refl _ | exact Wks.same _ | exact Wks.nil | exact WkS.nil | refine And.intro ?_ ?_ | refine Wk.aggs ?_ | refine Wk.tups ?_ | refine Wks.cons ?_ ?_ | refine WkS.cons (by first | exact fun _ => rfl | exact fun h => absurd h Bool.false_ne_true) ?_ ?_ ?_ | assumption | exact (fun h => h) | exact (fun h => absurd h Bool.false_ne_true) | intro _))))
      refine run ?_
      refine ⟨⟨(f c).2, p.1⟩, [0, 1, 2, 5, 6], [], Gc.of, by dsimp only; omega, hfc.2.1, hak.2.1, by rw [hak.1]; exact hak.2.2, m, by dsimp only; omega, hR⟩
    · rw [if_neg (by omega)] at hR
      subst hR
      refine run ?_
      exact r_end [0, 3, 4] []

end Go.TL
