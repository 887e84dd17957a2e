/- The table of a zone, by the reference, its shifts frozen. No conditions but those that are written. -/
import Derived.Test.YtkecbkljfpebhaaX14
namespace Go.TL
set_option linter.unusedSimpArgs false
open Go.Proofs Go.RowKit
attribute [local irreducible] wpOpsT wpT EndT Ex.seq Ex.block W

attribute [local go_sem] take_rowZ

set_option linter.unusedSimpArgs false in
set_option maxHeartbeats 16000000 in
theorem spec_ZoneTableZ (k0 k1 k2 : Nat) (rules : List RuleV) (zones : List ZoneV) (links : List LinkV) (n : Int) (hpre : rules.length ≤ 1048576 ∧ zones.length ≤ 1048576 ∧ links.length ≤ 1048576) :
    CallsT Try.prog [] F.spec_ZoneTable [.agg [.sl false k0 rules.length 9 (rowT ruleC rules), .sl false k1 zones.length 3 (rowT zoneC zones), .sl false k2 links.length 2 (rowT linkC links)], .v (.int .i64 n)] (.tup [.agg [.v (.int .i64 (ztF rules zones links n)), .sl false 0 (ztS rules zones links n).length 2 (rowT shiftC (ztS rules zones links n))], .v (.bool (decide (ztO rules zones links n)))]) [] := by
  obtain ⟨hr, hz, hl⟩ := hpre
  refine fnT C.spec_ZoneTable ?_
  refine run ?_
  refine r_ifd (fun h => ?_) (fun h => ?_)
  · have q := zt_no h
    rw [q.1, q.2.1, q.2.2]
    refine run ?_
    exact r_end [] []
  have h := Decidable.not_not.1 h
  have hzp := zon_ok h
  have hof := hzp.2.1
  have hq0 := zt_none h
  have hq1 := fun o => zt_some (o := o) h
  have hR := h.1.2.1
  have hr20 := h.1.1
  have hwl := walls_len hr20 (zonV rules zones links n).rule
  have hwb := walls_b (name := (zonV rules zones links n).rule) (rules_mem hR)
  have hw0 := walls_0 hR
  refine run ?_
  refine r_ifd (fun h0 => ?_) (fun h0 => ?_)
  · have q := hq1 [] (by rw [h0, hw0]; exact (tabV_some rfl).trans (if_pos (tableP_nil hof)))
    rw [q.1, q.2.1, q.2.2]
    refine run ?_
    exact r_end [] []
  refine run ?_
  generalize zonV rules zones links n = z at *
  generalize walls rules z.rule = W at *
  refine r_loop_of (σ := Nat × List ShiftV × Int × Int) (fun s => [(2, .ptr 0 [] 0), (4, .ptr 1 [] 0), (6, .ptr 2 [] 0), (8, .ptr 3 [] 0), (9, .sl false 0 W.length 2 (rowT shiftC W)), (10, .v (.int .i64 s.2.2.1)), (11, .v (.int .i64 s.2.2.2)), (12, .v (.int .i64 ((s.1 : Nat))))]) (fun s => ztG ⟨0, true, [.sl false k0 rules.length 9 (rowT ruleC rules), .sl false k1 zones.length 3 (rowT zoneC zones), .sl false k2 links.length 2 (rowT linkC links)]⟩ z s.2.1) (fun s => tabL z.off (W.drop s.1) (decide (s.1 = 0)) s.2.2.1 s.2.2.2 s.2.1 = tabL z.off W true 0 0 [] ∧ s.1 ≤ W.length ∧ s.2.1.length ≤ s.1 ∧ (0 ≤ s.2.2.1 ∧ s.2.2.1 ≤ 180) ∧ ((s.1 = 0 ∧ s.2.2.2 = 0) ∨ (0 < s.1 ∧ -60000000 ≤ s.2.2.2 ∧ s.2.2.2 ≤ 210000000))) (fun s => W.length - s.1) (0, [], 0, 0) [0, 1, 2, 3] [] ⟨rfl, Nat.zero_le _, Nat.le_refl _, by dsimp only; omega, .inl ⟨rfl, rfl⟩⟩ Gc.of ?_
  rintro ⟨i, o, s, t⟩ ⟨e1, e2, e3, e4, e5⟩
  dsimp only at e1 e2 e3 e4 e5 ⊢
  by_cases hc : i < W.length
  · have hx := hwb _ (nth_mem hc)
    unfold setB at hx
    rw [List.drop_eq_getElem_cons hc, ← nth_nat hc, tabL] at e1
    cases o with
    | nil =>
      dsimp only [ztG]
      simp only [List.length_cons, List.length_nil] at e3
      refine run ?_
      refine r_ifd (fun h1 => ?_) (fun h1 => ?_)
      · rw [if_pos ⟨decide_eq_false (by omega), h1.2⟩] at e1
        have q := hq0 (tabV_none e1.symm)
        rw [q.1, q.2.1, q.2.2]
        refine run ?_
        exact r_end [] []
      · rw [if_neg (fun k => h1 ⟨by have := of_decide_eq_false k.1; omega, k.2⟩)] at e1
        refine run ?_
        refine r_ifd (fun h2 => ?_) (fun h2 => ?_)
        · rw [if_neg (show ¬ (nth W (i : Nat)).off = s by omega)] at e1
          refine run ?_
          refine r_apz ?_
          refine run ?_
          exact ⟨(i + 1, [⟨(nth W (i : Nat)).at' - z.off - s, z.off + (nth W (i : Nat)).off⟩], (nth W (i : Nat)).off, (nth W (i : Nat)).at' - z.off - s), [0, 1, 2, 3, 5], [], Gc.of, by dsimp only; omega, e1, by dsimp only; omega, by simp only [List.length_cons, List.length_append, List.length_nil]; omega, by dsimp only; omega, .inr (by dsimp only; omega)⟩
        · rw [if_pos (show (nth W (i : Nat)).off = s by omega)] at e1
          refine run ?_
          exact ⟨(i + 1, [], (nth W (i : Nat)).off, (nth W (i : Nat)).at' - z.off - s), [0, 1, 2, 3], [], Gc.of, by dsimp only; omega, e1, by dsimp only; omega, by simp only [List.length_cons, List.length_nil]; omega, by dsimp only; omega, .inr (by dsimp only; omega)⟩
    | cons y o =>
      dsimp only [ztG]
      simp only [List.length_cons, List.length_nil] at e3
      refine run ?_
      refine r_ifd (fun h1 => ?_) (fun h1 => ?_)
      · rw [if_pos ⟨decide_eq_false (by omega), h1.2⟩] at e1
        have q := hq0 (tabV_none e1.symm)
        rw [q.1, q.2.1, q.2.2]
        refine run ?_
        exact r_end [] []
      · rw [if_neg (fun k => h1 ⟨by have := of_decide_eq_false k.1; omega, k.2⟩)] at e1
        refine run ?_
        refine r_ifd (fun h2 => ?_) (fun h2 => ?_)
        · rw [if_neg (show ¬ (nth W (i : Nat)).off = s by omega)] at e1
          refine run ?_
          refine r_app (enc := shiftC) (y :: o) [⟨(nth W (i : Nat)).at' - z.off - s, z.off + (nth W (i : Nat)).off⟩] (by simp only [List.length_cons, List.length_nil] at e3 ⊢; omega) ?_
          refine run ?_
          exact ⟨(i + 1, y :: (o ++ [(⟨(nth W (i : Nat)).at' - z.off - s, z.off + (nth W (i : Nat)).off⟩ : ShiftV)]), (nth W (i : Nat)).off, (nth W (i : Nat)).at' - z.off - s), [0, 1, 2, 3, 6], [], Gc.of, by dsimp only; omega, e1, by dsimp only; omega, by simp only [List.length_cons, List.length_append, List.length_nil]; omega, by dsimp only; omega, .inr (by dsimp only; omega)⟩
        · rw [if_pos (show (nth W (i : Nat)).off = s by omega)] at e1
          refine run ?_
          exact ⟨(i + 1, (y :: o), (nth W (i : Nat)).off, (nth W (i : Nat)).at' - z.off - s), [0, 1, 2, 3, 4], [], Gc.of, by dsimp only; omega, e1, by dsimp only; omega, by simp only [List.length_cons, List.length_nil]; omega, by dsimp only; omega, .inr (by dsimp only; omega)⟩
  · obtain rfl : i = W.length := by omega
    rw [List.drop_length, tabL] at e1
    cases o with
    | nil =>
      dsimp only [ztG]
      simp only [List.length_cons, List.length_nil] at e3
      have hto := spec_TableOk 1 z.off [] (by simp only [List.length_cons, List.length_nil]; omega)
      refine run ?_
      by_cases ht : tableP z.off []
      · rw [decide_eq_true ht] at hto
        have q := hq1 _ ((tabV_some e1.symm).trans (if_pos ht))
        refine runC ?_
        refine r_callp true hto ?_ (ts1 := [.agg [.v (.int .i64 z.off), .sl false 0 0 2 []]]) (hk := .cons (.aggs (.cons (.refl _) (.cons (.nil _ _) .nil))) .nil)
        rw [q.1, q.2.1, q.2.2]
        refine run ?_
        exact r_end [] []
      · rw [decide_eq_false ht] at hto
        have q := hq0 ((tabV_some e1.symm).trans (if_neg ht))
        refine runC ?_
        refine r_callp true hto ?_ (ts1 := [.agg [.v (.int .i64 z.off), .sl false 0 0 2 []]]) (hk := .cons (.aggs (.cons (.refl _) (.cons (.nil _ _) .nil))) .nil)
        rw [q.1, q.2.1, q.2.2]
        refine run ?_
        exact r_end [] []
    | cons y o =>
      dsimp only [ztG]
      simp only [List.length_cons, List.length_nil] at e3
      have hto := spec_TableOk 1 z.off (y :: o) (by simp only [List.length_cons, List.length_nil]; omega)
      refine run ?_
      by_cases ht : tableP z.off (y :: o)
      · rw [decide_eq_true ht] at hto
        have q := hq1 _ ((tabV_some e1.symm).trans (if_pos ht))
        refine runC ?_
        refine r_callp true hto ?_
        rw [q.1, q.2.1, q.2.2]
        refine run ?_
        exact r_end [] [4]
      · rw [decide_eq_false ht] at hto
        have q := hq0 ((tabV_some e1.symm).trans (if_neg ht))
        refine runC ?_
        refine r_callp true hto ?_
        rw [q.1, q.2.1, q.2.2]
        refine run ?_
        exact r_end [] []

end Go.TL
