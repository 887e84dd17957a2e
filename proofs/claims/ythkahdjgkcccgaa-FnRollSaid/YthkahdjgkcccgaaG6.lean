/- What is drawn of commands for rolls: that there is one, whatever the bytes. No conditions but those that are written. -/
import Derived.Test.YthkahdjgkcccgaaG5
import Derived.Test.YthkahdjgkcccgaaJM10M11
import Derived.Test.YthkahdjgkcccgaaR0
import Derived.Test.YthkahdjgkcccgaaTAny
namespace Go.TL
set_option linter.unusedSimpArgs false
open Go.Proofs Go.RowKit
attribute [local irreducible] wpOpsT wpT EndT Ex.seq Ex.block W

theorem right_ex (l : List Int) (c : Int × Int) (hc : curP l c.1) : ∃ (x : CmdV) (c' : Int × Int), (x.dig.size ≤ 32 ∧ x.rel ≤ 4) ∧ curP l c'.1 ∧ CallsT Try.prog [⟨0, true, [.sl false 0 l.length 1 (rowT u8C l), .v (.int .i64 c.1), .v (.int .i64 c.2)]⟩] F.spec_l5DrawRight [.ptr 0 [] 0] (.agg [.v (.int .i64 x.kind), .v (.int .i64 x.rel), .v (.int .i64 x.node), .v (.int .i64 x.size), .v (.string x.dig)]) [⟨0, true, [.sl false 0 l.length 1 (rowT u8C l), .v (.int .i64 (c'.1)), .v (.int .i64 (c'.2))]⟩] := by
  obtain ⟨v, c1, hv, hc1, h1⟩ := below_ex l c 5 hc (by omega)
  by_cases k1 : v = 0
  · subst k1
    refine ⟨⟨1, 0, 0, 0, ⟨#[]⟩⟩, c1, ⟨by show (0 : Nat) ≤ 32; omega, by show (0 : Int) ≤ 4; omega⟩, hc1, ?_⟩
    refine fnT C.spec_l5DrawRight ?_
    refine runC ?_
    refine r_call1p 0 h1 ?_
    refine run ?_
    exact r_end [0] [] (hm := keep_one _)
  obtain ⟨w, c2, hw, hc2, h2⟩ := below_ex l c1 4 hc1 (by omega)
  by_cases k3 : v = 2
  · subst k3
    obtain ⟨u, c3, hu, hc3, h3⟩ := below_ex l c2 3 hc2 (by omega)
    refine ⟨⟨3, 1 + w, u, 0, ⟨#[]⟩⟩, c3, ⟨by show (0 : Nat) ≤ 32; omega, by dsimp only; omega⟩, hc3, ?_⟩
    refine fnT C.spec_l5DrawRight ?_
    refine runC ?_
    refine r_call1p 0 h1 ?_
    refine runC ?_
    refine r_call1p 0 h2 ?_
    refine runC ?_
    refine r_call1p 0 h3 ?_
    refine run ?_
    exact r_end [0] [] (hm := keep_one _)
  by_cases k2 : v = 1
  · subst k2
    obtain ⟨u, c3, hu, hc3, h3⟩ := below_ex l c2 40 hc2 (by omega)
    obtain ⟨d, c4, hd, hc4, h4⟩ := digest_ex l c3 hc3
    refine ⟨⟨2, 1 + w, 0, u, d⟩, c4, ⟨by dsimp only; omega, by dsimp only; omega⟩, hc4, ?_⟩
    refine fnT C.spec_l5DrawRight ?_
    refine runC ?_
    refine r_call1p 0 h1 ?_
    refine runC ?_
    refine r_call1p 0 h2 ?_
    refine runC ?_
    refine r_call1p 0 h3 ?_
    refine runC ?_
    refine r_call1p 0 h4 ?_
    refine run ?_
    exact r_end [0] [] (hm := keep_one _)
  refine ⟨⟨1 + v, 1 + w, 0, 0, ⟨#[]⟩⟩, c2, ⟨by show (0 : Nat) ≤ 32; omega, by dsimp only; omega⟩, hc2, ?_⟩
  refine fnT C.spec_l5DrawRight ?_
  refine runC ?_
  refine r_call1p 0 h1 ?_
  refine runC ?_
  refine r_call1p 0 h2 ?_
  refine run ?_
  exact r_end [0] [] (hm := keep_one _)

set_option maxHeartbeats 4000000 in
theorem next_0 (l : List Int) (c : Int × Int) (of act : Int) (order : List Int) (hc : curP l c.1) :
    ∃ (x : CmdV) (c' : Int × Int), (x.dig.size ≤ 32 ∧ (x.kind = 2 → x.rel ≤ 4)) ∧ curP l c'.1 ∧ ∀ k0 k1, CallsT Try.prog [⟨0, true, [.sl false 0 l.length 1 (rowT u8C l), .v (.int .i64 c.1), .v (.int .i64 c.2)]⟩] F.spec_l7DrawNext [.ptr 0 [] 0, .agg [.v (.int .i64 of), .sl false k0 0 5 [], .v (.int .i64 act), .sl false k1 order.length 1 (rowT i64C order)]] (.agg [.v (.int .i64 x.kind), .v (.int .i64 x.rel), .v (.int .i64 x.node), .v (.int .i64 x.size), .v (.string x.dig)]) [⟨0, true, [.sl false 0 l.length 1 (rowT u8C l), .v (.int .i64 (c'.1)), .v (.int .i64 (c'.2))]⟩] := by
  obtain ⟨v, c1, hv, hc1, h1⟩ := below_ex l c 9 hc (by omega)
  by_cases v0 : v = 0
  · subst v0
    obtain ⟨a, c2, ha, hc2, h2⟩ := below_ex l c1 3 hc1 (by omega)
    obtain ⟨b, c3, hb, hc3, h3⟩ := below_ex l c2 40 hc2 (by omega)
    obtain ⟨d, c4, hd, hc4, h4⟩ := digest_ex l c3 hc3
    refine ⟨⟨2, min (0 + 1 + a) 1000, 0, b, d⟩, c4, ⟨by dsimp only; omega, by dsimp only; omega⟩, hc4, ?_⟩
    refine fun k0 k1 => fnT C.spec_l7DrawNext ?_
    refine runC ?_
    refine r_call1p 0 h1 ?_
    refine runC ?_
    refine r_call1p 0 h2 ?_
    refine runC ?_
    refine r_callc ?_
    refine runC ?_
    refine r_call1p 0 h3 ?_
    refine runC ?_
    refine r_call1p 0 h4 ?_
    refine run ?_
    exact r_end [0] [] (hm := keep_one _)
  by_cases v1 : v = 1
  · subst v1
    obtain ⟨x, c2, hx, hc2, h2⟩ := right_ex l c1 hc1
    refine ⟨x, c2, ⟨hx.1, by omega⟩, hc2, ?_⟩
    refine fun k0 k1 => fnT C.spec_l7DrawNext ?_
    refine runC ?_
    refine r_call1p 0 h1 ?_
    refine runC ?_
    refine r_call1p 0 h2 ?_
    refine run ?_
    exact r_end [0] [] (hm := keep_one _)
  obtain ⟨a, c2, ha, hc2, h2⟩ := below_ex l c1 3 hc1 (by omega)
  obtain ⟨d, c3, hd, hc3, h3⟩ := digest_ex l c2 hc2
  refine ⟨⟨2, 1 + a, 0, 0, d⟩, c3, ⟨by dsimp only; omega, by dsimp only; omega⟩, hc3, ?_⟩
  refine fun k0 k1 => fnT C.spec_l7DrawNext ?_
  refine runC ?_
  refine r_call1p 0 h1 ?_
  refine runC ?_
  refine r_call1p 0 h2 ?_
  refine runC ?_
  refine r_call1p 0 h3 ?_
  refine run ?_
  exact r_end [0] [] (hm := keep_one _)

set_option maxHeartbeats 4000000 in
theorem next_1 (l : List Int) (c : Int × Int) (of : Int) (rels : List RelV) (act : Int) (order : List Int) (hc : curP l c.1) (ho : 0 < of ∧ of ≤ 5) (hl : 0 < rels.length ∧ rels.length ≤ 30) (hlast : 0 ≤ (nth rels ((rels.length : Int) - 1)).no ∧ (nth rels ((rels.length : Int) - 1)).no ≤ 1000) :
    ∃ (x : CmdV) (c' : Int × Int), (x.dig.size ≤ 32 ∧ (x.kind = 2 → x.rel ≤ (nth rels ((rels.length : Int) - 1)).no + 4)) ∧ curP l c'.1 ∧ ∀ k0 k1, CallsT Try.prog [⟨0, true, [.sl false 0 l.length 1 (rowT u8C l), .v (.int .i64 c.1), .v (.int .i64 c.2)]⟩] F.spec_l7DrawNext [.ptr 0 [] 0, .agg [.v (.int .i64 of), .sl false k0 rels.length 5 (rowT relC rels), .v (.int .i64 act), .sl false k1 order.length 1 (rowT i64C order)]] (.agg [.v (.int .i64 x.kind), .v (.int .i64 x.rel), .v (.int .i64 x.node), .v (.int .i64 x.size), .v (.string x.dig)]) [⟨0, true, [.sl false 0 l.length 1 (rowT u8C l), .v (.int .i64 (c'.1)), .v (.int .i64 (c'.2))]⟩] := by
  obtain ⟨v, c1, hv, hc1, h1⟩ := below_ex l c 9 hc (by omega)
  by_cases v0 : v = 0
  · subst v0
    obtain ⟨a, c2, ha, hc2, h2⟩ := below_ex l c1 3 hc1 (by omega)
    obtain ⟨b, c3, hb, hc3, h3⟩ := below_ex l c2 40 hc2 (by omega)
    obtain ⟨d, c4, hd, hc4, h4⟩ := digest_ex l c3 hc3
    refine ⟨⟨2, min ((nth rels ((rels.length : Int) - 1)).no + 1 + a) 1000, 0, b, d⟩, c4, ⟨by dsimp only; omega, by dsimp only; omega⟩, hc4, ?_⟩
    refine fun k0 k1 => fnT C.spec_l7DrawNext ?_
    refine runC ?_
    refine r_call1p 0 h1 ?_
    refine runC ?_
    refine r_call1p 0 h2 ?_
    refine runC ?_
    refine r_callc ?_
    refine runC ?_
    refine r_call1p 0 h3 ?_
    refine runC ?_
    refine r_call1p 0 h4 ?_
    refine run ?_
    exact r_end [0] [] (hm := keep_one _)
  by_cases v1 : v = 1
  · subst v1
    obtain ⟨x, c2, hx, hc2, h2⟩ := right_ex l c1 hc1
    refine ⟨x, c2, ⟨hx.1, by omega⟩, hc2, ?_⟩
    refine fun k0 k1 => fnT C.spec_l7DrawNext ?_
    refine runC ?_
    refine r_call1p 0 h1 ?_
    refine runC ?_
    refine r_call1p 0 h2 ?_
    refine run ?_
    exact r_end [0] [] (hm := keep_one _)
  obtain ⟨j, c2, hj, hc2, h2⟩ := below_ex l c1 rels.length hc1 (by omega)
  obtain ⟨s, c3, hs, hc3, h3⟩ := below_ex l c2 7 hc2 (by omega)
  by_cases s0 : s = 0
  · subst s0
    refine ⟨⟨4, (nth rels j).no, 0, 0, ⟨#[]⟩⟩, c3, ⟨by show (0 : Nat) ≤ 32; omega, fun h => by dsimp only at h; omega⟩, hc3, ?_⟩
    refine fun k0 k1 => fnT C.spec_l7DrawNext ?_
    refine runC ?_
    refine r_call1p 0 h1 ?_
    refine runS ?_
    refine r_any [(0, .ptr 0 [] 0), (3, .ptr 1 [] 0), (4, .ptr 2 [] 0), (7, .ptr 3 [] 0)] [⟨0, true, [.sl false 0 l.length 1 (rowT u8C l), .v (.int .i64 c2.1), .v (.int .i64 c2.2)]⟩, ⟨0, true, [.v (.int .i64 of), .sl false k0 rels.length 5 (rowT relC rels), .v (.int .i64 act), .sl false k1 order.length 1 (rowT i64C order)]⟩, ⟨0, true, [.v (.int .i64 0), .v (.int .i64 0), .v (.int .i64 0), .v (.int .i64 0), .v (.string ⟨#[]⟩)]⟩, ⟨0, true, [.v (.int .i64 ((nth rels j).no)), .v (.int .i64 ((nth rels j).size)), .v (.string ((nth rels j).dig)), .dead, .v (.int .i64 ((nth rels j).state))]⟩] ?_ ?_
    rotate_left
    · refine a_swap 6 ?_
      refine a_swap 5 ?_
      refine a_two 4 ?_ ?_
      · refine any_lin ?_
        refine runC ?_
        refine r_call1p 0 h2 ?_
        refine run ?_
        exact ⟨[0, 1, 2, 3], [], Gc.of⟩
      · refine any_lin ?_
        refine runC ?_
        refine r_call1p 0 h2 ?_
        refine run ?_
        exact ⟨[0, 1, 2, 3], [], Gc.of⟩
    refine runC ?_
    refine r_call1p 0 h3 ?_
    refine run ?_
    exact r_end [0] [] (hm := keep_one _)
  by_cases s1 : s = 1
  · subst s1
    obtain ⟨o, c4, hc4, h4⟩ := once_ex l c3 3 hc3 (by omega)
    cases o with
    | true =>
      refine ⟨⟨5, (nth rels j).no, 0, 0, ⟨#[]⟩⟩, c4, ⟨by show (0 : Nat) ≤ 32; omega, fun h => by dsimp only at h; omega⟩, hc4, ?_⟩
      refine fun k0 k1 => fnT C.spec_l7DrawNext ?_
      refine runC ?_
      refine r_call1p 0 h1 ?_
      refine runS ?_
      refine r_any [(0, .ptr 0 [] 0), (3, .ptr 1 [] 0), (4, .ptr 2 [] 0), (7, .ptr 3 [] 0)] [⟨0, true, [.sl false 0 l.length 1 (rowT u8C l), .v (.int .i64 c2.1), .v (.int .i64 c2.2)]⟩, ⟨0, true, [.v (.int .i64 of), .sl false k0 rels.length 5 (rowT relC rels), .v (.int .i64 act), .sl false k1 order.length 1 (rowT i64C order)]⟩, ⟨0, true, [.v (.int .i64 0), .v (.int .i64 0), .v (.int .i64 0), .v (.int .i64 0), .v (.string ⟨#[]⟩)]⟩, ⟨0, true, [.v (.int .i64 ((nth rels j).no)), .v (.int .i64 ((nth rels j).size)), .v (.string ((nth rels j).dig)), .dead, .v (.int .i64 ((nth rels j).state))]⟩] ?_ ?_
      rotate_left
      · refine a_swap 6 ?_
        refine a_swap 5 ?_
        refine a_two 4 ?_ ?_
        · refine any_lin ?_
          refine runC ?_
          refine r_call1p 0 h2 ?_
          refine run ?_
          exact ⟨[0, 1, 2, 3], [], Gc.of⟩
        · refine any_lin ?_
          refine runC ?_
          refine r_call1p 0 h2 ?_
          refine run ?_
          exact ⟨[0, 1, 2, 3], [], Gc.of⟩
      refine runC ?_
      refine r_call1p 0 h3 ?_
      refine runC ?_
      refine r_call1p 0 h4 ?_
      refine run ?_
      exact r_end [0] [] (hm := keep_one _)
    | false =>
      refine ⟨⟨4, (nth rels j).no, 0, 0, ⟨#[]⟩⟩, c4, ⟨by show (0 : Nat) ≤ 32; omega, fun h => by dsimp only at h; omega⟩, hc4, ?_⟩
      refine fun k0 k1 => fnT C.spec_l7DrawNext ?_
      refine runC ?_
      refine r_call1p 0 h1 ?_
      refine runS ?_
      refine r_any [(0, .ptr 0 [] 0), (3, .ptr 1 [] 0), (4, .ptr 2 [] 0), (7, .ptr 3 [] 0)] [⟨0, true, [.sl false 0 l.length 1 (rowT u8C l), .v (.int .i64 c2.1), .v (.int .i64 c2.2)]⟩, ⟨0, true, [.v (.int .i64 of), .sl false k0 rels.length 5 (rowT relC rels), .v (.int .i64 act), .sl false k1 order.length 1 (rowT i64C order)]⟩, ⟨0, true, [.v (.int .i64 0), .v (.int .i64 0), .v (.int .i64 0), .v (.int .i64 0), .v (.string ⟨#[]⟩)]⟩, ⟨0, true, [.v (.int .i64 ((nth rels j).no)), .v (.int .i64 ((nth rels j).size)), .v (.string ((nth rels j).dig)), .dead, .v (.int .i64 ((nth rels j).state))]⟩] ?_ ?_
      rotate_left
      · refine a_swap 6 ?_
        refine a_swap 5 ?_
        refine a_two 4 ?_ ?_
        · refine any_lin ?_
          refine runC ?_
          refine r_call1p 0 h2 ?_
          refine run ?_
          exact ⟨[0, 1, 2, 3], [], Gc.of⟩
        · refine any_lin ?_
          refine runC ?_
          refine r_call1p 0 h2 ?_
          refine run ?_
          exact ⟨[0, 1, 2, 3], [], Gc.of⟩
      refine runC ?_
      refine r_call1p 0 h3 ?_
      refine runC ?_
      refine r_call1p 0 h4 ?_
      refine run ?_
      exact r_end [0] [] (hm := keep_one _)
  obtain ⟨w, c4, hw, hc4, h4⟩ := below_ex l c3 of hc3 (by omega)
  refine ⟨⟨3, (nth rels j).no, w, 0, ⟨#[]⟩⟩, c4, ⟨by show (0 : Nat) ≤ 32; omega, fun h => by dsimp only at h; omega⟩, hc4, ?_⟩
  refine fun k0 k1 => fnT C.spec_l7DrawNext ?_
  refine runC ?_
  refine r_call1p 0 h1 ?_
  refine runS ?_
  refine r_any [(0, .ptr 0 [] 0), (3, .ptr 1 [] 0), (4, .ptr 2 [] 0), (7, .ptr 3 [] 0)] [⟨0, true, [.sl false 0 l.length 1 (rowT u8C l), .v (.int .i64 c2.1), .v (.int .i64 c2.2)]⟩, ⟨0, true, [.v (.int .i64 of), .sl false k0 rels.length 5 (rowT relC rels), .v (.int .i64 act), .sl false k1 order.length 1 (rowT i64C order)]⟩, ⟨0, true, [.v (.int .i64 0), .v (.int .i64 0), .v (.int .i64 0), .v (.int .i64 0), .v (.string ⟨#[]⟩)]⟩, ⟨0, true, [.v (.int .i64 ((nth rels j).no)), .v (.int .i64 ((nth rels j).size)), .v (.string ((nth rels j).dig)), .dead, .v (.int .i64 ((nth rels j).state))]⟩] ?_ ?_
  rotate_left
  · refine a_swap 6 ?_
    refine a_swap 5 ?_
    refine a_two 4 ?_ ?_
    · refine any_lin ?_
      refine runC ?_
      refine r_call1p 0 h2 ?_
      refine run ?_
      exact ⟨[0, 1, 2, 3], [], Gc.of⟩
    · refine any_lin ?_
      refine runC ?_
      refine r_call1p 0 h2 ?_
      refine run ?_
      exact ⟨[0, 1, 2, 3], [], Gc.of⟩
  refine runC ?_
  refine r_call1p 0 h3 ?_
  refine runC ?_
  refine r_call1p 0 h4 ?_
  refine run ?_
  exact r_end [0] [] (hm := keep_one _)

end Go.TL
