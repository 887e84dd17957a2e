/- Sources of tables that are drawn: that there is one, whatever the bytes. No conditions but those that are written. -/
import Derived.Test.YtkecbkljfpebhaaX23
import Derived.Test.YtkecbkljfpebhaaTFree
namespace Go.TL
set_option linter.unusedSimpArgs false
open Go.Proofs Go.RowKit
attribute [local irreducible] wpOpsT wpT EndT Ex.seq Ex.block W

set_option linter.unusedSimpArgs false in
set_option maxHeartbeats 16000000 in
theorem source13_ex (l : List Int) (c : Int × Int) (hc : curP l c.1) : ∃ (rules : List RuleV) (zones : List ZoneV) (links : List LinkV) (c' : Int × Int), curP l c'.1 ∧ (rules.length ≤ 20 ∧ zones.length ≤ 4 ∧ links.length ≤ 3) ∧ CallsT Try.prog [⟨0, true, [.sl false 0 l.length 1 (rowT u8C l), .v (.int .i64 c.1), .v (.int .i64 c.2)]⟩] F.spec_l13DrawSource [.ptr 0 [] 0] (.agg [.sl false 0 rules.length 9 (rowT ruleC rules), .sl false 0 zones.length 3 (rowT zoneC zones), .sl false 0 links.length 2 (rowT linkC links)]) [⟨0, true, [.sl false 0 l.length 1 (rowT u8C l), .v (.int .i64 (c'.1)), .v (.int .i64 (c'.2))]⟩] := by
  obtain ⟨u, c1, hc1, h1⟩ := once_ex l c 3 hc (by omega)
  cases u with
  | true =>
    obtain ⟨rules, zones, links, c2, hc2, hlen, h2⟩ := source12_ex l c1 hc1
    refine ⟨rules, zones, links, c2, hc2, hlen, ?_⟩
    refine fnT C.spec_l13DrawSource ?_
    refine runC ?_
    refine r_call1p 0 h1 ?_
    refine runC ?_
    refine r_call1p 0 h2 ?_
    refine run ?_
    exact r_end [0] []
  | false =>
    obtain ⟨a, c2, ha, hc2, h2⟩ := below_ex l c1 60 hc1 (by omega)
    obtain ⟨b, c3, hb, hc3, h3⟩ := below_ex l c2 90 hc2 (by omega)
    obtain ⟨w, c4, hw, hc4, h4⟩ := below_ex l c3 7 hc3 (by omega)
    obtain ⟨v, c5, hc5, h5⟩ := once_ex l c4 3 hc4 (by omega)
    cases v with
    | false =>
      obtain ⟨d, c6, hd, hc6, h6⟩ := below_ex l c5 24 hc5 (by omega)
      obtain ⟨e, c7, he, hc7, h7⟩ := below_ex l c6 9 hc6 (by omega)
      refine ⟨[⟨97, 1960 + a, 1960 + a + b, 3, 3, 8, 0, 120, 60⟩, ⟨97, 1960 + a, 1960 + a + b, 11, 2, 0, w, 120, 0⟩], [⟨65, 60 * d - 720, 97⟩, ⟨66, 30 * e, 0⟩], [⟨84, 65⟩], c7, hc7, ⟨by simp only [List.length_cons, List.length_nil]; omega, by simp only [List.length_cons, List.length_nil]; omega, by simp only [List.length_cons, List.length_nil]; omega⟩, ?_⟩
      refine fnT C.spec_l13DrawSource ?_
      refine runC ?_
      refine r_call1p 0 h1 ?_
      refine runC ?_
      refine r_call1p 0 h2 ?_
      refine runC ?_
      refine r_call1p 0 h3 ?_
      refine runC ?_
      refine r_apz ?_
      refine runC ?_
      refine r_call1p 0 h4 ?_
      refine runC ?_
      refine r_apw ?_
      refine runC ?_
      refine r_call1p 0 h5 ?_
      refine runC ?_
      refine r_call1p 0 h6 ?_
      refine runC ?_
      refine r_call1p 0 h7 ?_
      refine run ?_
      exact r_end [0] [6, 7, 8] (hres := by simp only [rowT_cons, rowT_nil, ruleC, zoneC, linkC, List.cons_append, List.nil_append, List.append_nil, List.length_cons, List.length_nil]; (simp only [go_sem, ↓reduceIte, Nat.reduceEqDiff, Nat.reduceMul, Nat.reduceAdd, Nat.reduceSub, Nat.reduceLT, Nat.reduceGT, Nat.reduceLeDiff, Nat.reduceBEq, Int.reduceLT, Int.reduceLE, Int.reduceNe, Int.reduceEq, Int.reduceToNat, Int.reduceAdd, Int.reduceSub, Int.reduceMul, Int.reduceNeg, Nat.reducePow, Int.reducePow, Nat.reduceSubDiff, decide_true, decide_false, reduceCtorEq, or_self, or_false, false_or, or_true, true_or, if_false, gt_iff_lt, ge_iff_le, ne_eq, not_true_eq_false, not_false_eq_true, and_self, beq_self_eq_true, Bool.false_eq_true]; try (repeat (first | exact True.intro | exact Wk.refl _ | exact Wk.nilR _ _ _ | exact Wk.nil _ _ | exact Wk.dead _ | exact Wk.bT (by assumption) | exact Wk.bF (by assumption) | exact Wk.eqI (by omega) | exact WkS.refl _ | exact Wks.same _ | exact Wks.nil | exact WkS.nil | refine And.intro ?_ ?_ | refine Wk.aggs ?_ | refine Wk.tups ?_ | refine Wks.cons ?_ ?_ | refine WkS.cons (by first | exact fun _ => rfl | exact fun h => absurd h Bool.false_ne_true) ?_ ?_ ?_ | assumption | exact (fun h => h) | exact (fun h => absurd h Bool.false_ne_true) | intro _))))
    | true =>
      obtain ⟨m, k1, hm, hk1, g1⟩ := below_ex l c5 9 hc5 (by omega)
      obtain ⟨g, k2, hg, hk2, g2⟩ := below_ex l k1 28 hk1 (by omega)
      obtain ⟨t, k3, ht, hk3, g3⟩ := below_ex l k2 1440 hk2 (by omega)
      obtain ⟨s, k4, hs, hk4, g4⟩ := pick_ex l k3 [0, 30, 60] hk3 (by decide)
      obtain ⟨d, c6, hd, hc6, h6⟩ := below_ex l k4 24 hk4 (by omega)
      obtain ⟨e, c7, he, hc7, h7⟩ := below_ex l c6 9 hc6 (by omega)
      refine ⟨[⟨97, 1960 + a, 1960 + a + b, 3, 3, 8, 0, 120, 60⟩, ⟨97, 1960 + a, 1960 + a + b, 11, 2, 0, w, 120, 0⟩, ⟨97, 1980, 1985, 3 + m, 1, 1 + g, 0, t, s⟩], [⟨65, 60 * d - 720, 97⟩, ⟨66, 30 * e, 0⟩], [⟨84, 65⟩], c7, hc7, ⟨by simp only [List.length_cons, List.length_nil]; omega, by simp only [List.length_cons, List.length_nil]; omega, by simp only [List.length_cons, List.length_nil]; omega⟩, ?_⟩
      refine fnT C.spec_l13DrawSource ?_
      refine runC ?_
      refine r_call1p 0 h1 ?_
      refine runC ?_
      refine r_call1p 0 h2 ?_
      refine runC ?_
      refine r_call1p 0 h3 ?_
      refine runC ?_
      refine r_apz ?_
      refine runC ?_
      refine r_call1p 0 h4 ?_
      refine runC ?_
      refine r_apw ?_
      refine runC ?_
      refine r_call1p 0 h5 ?_
      refine runS ?_
      --HERE
      refine r_any [(0, .ptr 0 [] 0), (2, .ptr 1 [] 0), (3, .ptr 2 [] 0)] [⟨0, true, [.sl false 0 l.length 1 (rowT u8C l), .v (.int .i64 k4.1), .v (.int .i64 k4.2)]⟩, ⟨0, true, [.v (.slice none 0 0), .v (.slice none 0 0), .v (.slice none 0 0)]⟩, ⟨0, true, [.ref 3 [] 0 3, .v (.slice none 0 0), .v (.slice none 0 0)]⟩, ⟨9, true, [.v (.int .i64 97), .v (.int .i64 (1960 + a)), .v (.int .i64 (1960 + a + b)), .v (.int .i64 3), .v (.int .i64 3), .v (.int .i64 8), .v (.int .i64 0), .v (.int .i64 120), .v (.int .i64 60), .v (.int .i64 97), .v (.int .i64 (1960 + a)), .v (.int .i64 (1960 + a + b)), .v (.int .i64 11), .v (.int .i64 2), .v (.int .i64 0), .v (.int .i64 w), .v (.int .i64 120), .v (.int .i64 0), .v (.int .i64 97), .v (.int .i64 1980), .v (.int .i64 1985), .v (.int .i64 (3 + m)), .v (.int .i64 1), .v (.int .i64 (1 + g)), .v (.int .i64 0), .v (.int .i64 t), .v (.int .i64 s)]⟩] ?_ (AnyOk.of ?_)
      rotate_left
      · refine t_fa 0 ?_
        refine t_move 1 ?_
        refine t_move 3 ?_
        refine t_move 6 ?_
        refine t_move 7 ?_
        refine t_swap 6 ?_
        refine t_swap 5 ?_
        refine t_swap 4 ?_
        refine t_swap 3 ?_
        refine t_swap 2 ?_
        refine t_two 1 ?_ ?_
        · refine t_two 0 ?_ ?_
          · refine t_head ?_
            refine run ?_
            refine t_head ?_
            refine runC ?_
            refine r_call1p 0 g1 ?_
            refine run ?_
            refine t_bin 1 ?_
            refine t_two 0 ?_ ?_
            · refine t_lin ?_
              refine runC ?_
              refine r_call1p 0 g2 ?_
              refine runC ?_
              refine r_call1p 0 g3 ?_
              refine runC ?_
              refine r_call1p 0 (g4 1) ?_
              refine runC ?_
              refine r_apw ?_
              refine run ?_
              exact ⟨[0, 1, 2, 9], [], Gc.of⟩
            · refine t_head ?_
              refine runC ?_
              refine r_call1p 0 g2 ?_
              refine run ?_
              refine t_swap 2 ?_
              refine t_swap 1 ?_
              refine t_two 0 ?_ ?_
              · refine t_lin ?_
                refine runC ?_
                refine r_call1p 0 g3 ?_
                refine runC ?_
                refine r_call1p 0 (g4 1) ?_
                refine runC ?_
                refine r_apw ?_
                refine run ?_
                exact ⟨[0, 1, 2, 9], [], Gc.of⟩
              · refine t_lin ?_
                refine runC ?_
                refine r_call1p 0 g3 ?_
                refine runC ?_
                refine r_call1p 0 (g4 1) ?_
                refine runC ?_
                refine r_apw ?_
                refine run ?_
                exact ⟨[0, 1, 2, 9], [], Gc.of⟩
          · refine t_head ?_
            refine runC ?_
            refine r_call1p 0 g1 ?_
            refine run ?_
            refine t_bin 2 ?_
            refine t_two 1 ?_ ?_
            · refine t_lin ?_
              refine runC ?_
              refine r_call1p 0 g2 ?_
              refine runC ?_
              refine r_call1p 0 g3 ?_
              refine runC ?_
              refine r_call1p 0 (g4 1) ?_
              refine runC ?_
              refine r_apw ?_
              refine run ?_
              exact ⟨[0, 1, 2, 9], [], Gc.of⟩
            · refine t_two 0 ?_ ?_
              · refine t_head ?_
                refine run ?_
                refine t_head ?_
                refine runC ?_
                refine r_call1p 0 g2 ?_
                refine run ?_
                refine t_swap 2 ?_
                refine t_swap 1 ?_
                refine t_two 0 ?_ ?_
                · refine t_lin ?_
                  refine runC ?_
                  refine r_call1p 0 g3 ?_
                  refine runC ?_
                  refine r_call1p 0 (g4 1) ?_
                  refine runC ?_
                  refine r_apw ?_
                  refine run ?_
                  exact ⟨[0, 1, 2, 9], [], Gc.of⟩
                · refine t_lin ?_
                  refine runC ?_
                  refine r_call1p 0 g3 ?_
                  refine runC ?_
                  refine r_call1p 0 (g4 1) ?_
                  refine runC ?_
                  refine r_apw ?_
                  refine run ?_
                  exact ⟨[0, 1, 2, 9], [], Gc.of⟩
              · refine t_head ?_
                refine runC ?_
                refine r_call1p 0 g2 ?_
                refine run ?_
                refine t_swap 3 ?_
                refine t_swap 2 ?_
                refine t_two 1 ?_ ?_
                · refine t_lin ?_
                  refine runC ?_
                  refine r_call1p 0 g3 ?_
                  refine runC ?_
                  refine r_call1p 0 (g4 1) ?_
                  refine runC ?_
                  refine r_apw ?_
                  refine run ?_
                  exact ⟨[0, 1, 2, 9], [], Gc.of⟩
                · refine t_lin ?_
                  refine runC ?_
                  refine r_call1p 0 g3 ?_
                  refine runC ?_
                  refine r_call1p 0 (g4 1) ?_
                  refine runC ?_
                  refine r_apw ?_
                  refine run ?_
                  exact ⟨[0, 1, 2, 9], [], Gc.of⟩
        · refine t_lin ?_
          refine runC ?_
          refine r_call1p 0 g1 ?_
          refine runC ?_
          refine r_call1p 0 g2 ?_
          refine runC ?_
          refine r_call1p 0 g3 ?_
          refine runC ?_
          refine r_call1p 0 (g4 1) ?_
          refine runC ?_
          refine r_apw ?_
          refine run ?_
          exact ⟨[0, 1, 2, 9], [], Gc.of⟩
      refine runC ?_
      refine r_call1p 0 h6 ?_
      refine runC ?_
      refine r_call1p 0 h7 ?_
      refine run ?_
      exact r_end [0] [3, 4, 5] (hres := by simp only [rowT_cons, rowT_nil, ruleC, zoneC, linkC, List.cons_append, List.nil_append, List.append_nil, List.length_cons, List.length_nil]; (simp only [go_sem, ↓reduceIte, Nat.reduceEqDiff, Nat.reduceMul, Nat.reduceAdd, Nat.reduceSub, Nat.reduceLT, Nat.reduceGT, Nat.reduceLeDiff, Nat.reduceBEq, Int.reduceLT, Int.reduceLE, Int.reduceNe, Int.reduceEq, Int.reduceToNat, Int.reduceAdd, Int.reduceSub, Int.reduceMul, Int.reduceNeg, Nat.reducePow, Int.reducePow, Nat.reduceSubDiff, decide_true, decide_false, reduceCtorEq, or_self, or_false, false_or, or_true, true_or, if_false, gt_iff_lt, ge_iff_le, ne_eq, not_true_eq_false, not_false_eq_true, and_self, beq_self_eq_true, Bool.false_eq_true]; try (repeat (first | exact True.intro | exact Wk.refl _ | exact Wk.nilR _ _ _ | exact Wk.nil _ _ | exact Wk.dead _ | exact Wk.bT (by assumption) | exact Wk.bF (by assumption) | exact Wk.eqI (by omega) | exact WkS.refl _ | exact Wks.same _ | exact Wks.nil | exact WkS.nil | refine And.intro ?_ ?_ | refine Wk.aggs ?_ | refine Wk.tups ?_ | refine Wks.cons ?_ ?_ | refine WkS.cons (by first | exact fun _ => rfl | exact fun h => absurd h Bool.false_ne_true) ?_ ?_ ?_ | assumption | exact (fun h => h) | exact (fun h => absurd h Bool.false_ne_true) | intro _))))

theorem drawZoneTable_ex (l : List Int) (hpre : (∀ x ∈ l, 0 ≤ x ∧ x < 256) ∧ l.length ≤ 140737488351232) : ∃ (rules : List RuleV) (zones : List ZoneV) (links : List LinkV) (n : Int), (rules.length ≤ 20 ∧ zones.length ≤ 4 ∧ links.length ≤ 3) ∧ CallsT Try.prog [] F.spec_DrawZoneTable [.sl false 0 l.length 1 (rowT u8C l)] (.tup [.agg [.sl false 0 rules.length 9 (rowT ruleC rules), .sl false 0 zones.length 3 (rowT zoneC zones), .sl false 0 links.length 2 (rowT linkC links)], .v (.int .i64 n)]) [] := by
  have hn := spec_l1New l hpre
  obtain ⟨rules, zones, links, c', hc', hlen, h1⟩ := source13_ex l (0, newS l (newN l)) ⟨hpre.1, hpre.2, by dsimp only; omega, by dsimp only; omega⟩
  obtain ⟨n, c2, hnm, hc2, h2⟩ := pick_ex l c' [65, 65, 65, 66, 84, 67, 85] hc' (by decide)
  refine ⟨rules, zones, links, n, hlen, ?_⟩
  refine fnT C.spec_DrawZoneTable ?_
  refine runC ?_
  refine r_callp false hn ?_
  refine runC ?_
  refine r_call1p 1 h1 ?_
  refine runC ?_
  refine r_call1p 1 (h2 1) ?_
  refine run ?_
  exact r_end [] []

end Go.TL
