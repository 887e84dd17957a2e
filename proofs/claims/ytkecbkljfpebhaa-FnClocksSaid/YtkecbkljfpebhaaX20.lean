/- A rule that is drawn: that there is one, whatever the bytes. No conditions but those that are written. -/
import Derived.Test.YtkecbkljfpebhaaX7
import Derived.Test.YtkecbkljfpebhaaJG1G0
import Derived.Test.YtkecbkljfpebhaaTNst
namespace Go.TL
set_option linter.unusedSimpArgs false
open Go.Proofs Go.RowKit
attribute [local irreducible] wpOpsT wpT EndT Ex.seq Ex.block W

set_option linter.unusedSimpArgs false in
set_option maxHeartbeats 8000000 in
theorem rule_ex (l : List Int) (c : Int × Int) (hc : curP l c.1) : ∃ (r : RuleV) (c' : Int × Int), curP l c'.1 ∧ CallsT Try.prog [⟨0, true, [.sl false 0 l.length 1 (rowT u8C l), .v (.int .i64 c.1), .v (.int .i64 c.2)]⟩] F.spec_l12DrawRule [.ptr 0 [] 0] (.agg (ruleC r)) [⟨0, true, [.sl false 0 l.length 1 (rowT u8C l), .v (.int .i64 (c'.1)), .v (.int .i64 (c'.2))]⟩] := by
  obtain ⟨a, c1, ha, hc1, ea⟩ := below_ex l c 3 hc (by omega)
  obtain ⟨b, c2, hb, hc2, eb⟩ := below_ex l c1 70 hc1 (by omega)
  obtain ⟨m, c3, hm, hc3, em⟩ := below_ex l c2 12 hc2 (by omega)
  obtain ⟨t, c4, ht, hc4, et⟩ := below_ex l c3 24 hc3 (by omega)
  obtain ⟨s, c5, hs, hc5, es⟩ := pick_ex l c4 [0, 60, 30, 0] hc4 (by decide)
  obtain ⟨d, c6, hd, hc6, ed⟩ := below_ex l c5 20 hc5 (by omega)
  obtain ⟨w, c7, hw, hc7, ew⟩ := below_ex l c6 7 hc6 (by omega)
  obtain ⟨u, c8, hc8, eu⟩ := once_ex l c7 2 hc7 (by omega)
  have hsb : 0 ≤ s ∧ s ≤ 60 := by
    simp only [List.mem_cons, List.not_mem_nil, or_false] at hs
    omega
  cases u with
  | true =>
    obtain ⟨p, c9, hp, hc9, ep⟩ := below_ex l c8 7 hc8 (by omega)
    obtain ⟨q, c10, hq, hc10, eq⟩ := below_ex l c9 20 hc9 (by omega)
    obtain ⟨v, c11, hc11, ev⟩ := once_ex l c10 4 hc10 (by omega)
    cases v with
    | true =>
      obtain ⟨g, c12, hg, hc12, eg⟩ := below_ex l c11 31 hc11 (by omega)
      refine ⟨⟨97 + a, 1960 + b, 1960 + b + d, 1 + m, 1, 1 + g, 0, 60 * t, s⟩, c12, hc12, ?_⟩
      dsimp only [ruleC]
      refine fnT C.spec_l12DrawRule ?_
      refine runC ?_
      refine r_call1p 0 ea ?_
      refine runC ?_
      refine r_call1p 0 eb ?_
      refine runC ?_
      refine r_call1p 0 em ?_
      refine runC ?_
      refine r_call1p 0 et ?_
      refine runC ?_
      refine r_call1p 0 (es 1) ?_
      refine runC ?_
      refine r_call1p 0 ed ?_
      refine runC ?_
      refine r_call1p 0 ew ?_
      refine runC ?_
      refine r_call1p 0 eu ?_
      refine runC ?_
      refine r_call1p 0 ep ?_
      refine runC ?_
      refine r_call1p 0 eq ?_
      refine runC ?_
      refine r_call1p 0 ev ?_
      refine runC ?_
      refine r_call1p 0 eg ?_
      refine run ?_
      exact r_end [0] [] (hm := keep_one _)
    | false =>
      refine ⟨⟨97 + a, 1960 + b, 1960 + b + d, 1 + m, 3, 1 + q, p, 60 * t, s⟩, c11, hc11, ?_⟩
      dsimp only [ruleC]
      refine fnT C.spec_l12DrawRule ?_
      refine runC ?_
      refine r_call1p 0 ea ?_
      refine runC ?_
      refine r_call1p 0 eb ?_
      refine runC ?_
      refine r_call1p 0 em ?_
      refine runC ?_
      refine r_call1p 0 et ?_
      refine runC ?_
      refine r_call1p 0 (es 1) ?_
      refine runC ?_
      refine r_call1p 0 ed ?_
      refine runC ?_
      refine r_call1p 0 ew ?_
      refine runC ?_
      refine r_call1p 0 eu ?_
      refine runC ?_
      refine r_call1p 0 ep ?_
      refine runC ?_
      refine r_call1p 0 eq ?_
      refine runC ?_
      refine r_call1p 0 ev ?_
      refine run ?_
      exact r_end [0] [] (hm := keep_one _)
  | false =>
    obtain ⟨v, c9, hc9, ev⟩ := once_ex l c8 4 hc8 (by omega)
    cases v with
    | true =>
      obtain ⟨g, c10, hg, hc10, eg⟩ := below_ex l c9 31 hc9 (by omega)
      refine ⟨⟨97 + a, 1960 + b, 1960 + b + d, 1 + m, 1, 1 + g, 0, 60 * t, s⟩, c10, hc10, ?_⟩
      dsimp only [ruleC]
      refine fnT C.spec_l12DrawRule ?_
      refine runC ?_
      refine r_call1p 0 ea ?_
      refine runC ?_
      refine r_call1p 0 eb ?_
      refine runC ?_
      refine r_call1p 0 em ?_
      refine runC ?_
      refine r_call1p 0 et ?_
      refine runC ?_
      refine r_call1p 0 (es 1) ?_
      refine runC ?_
      refine r_call1p 0 ed ?_
      refine runC ?_
      refine r_call1p 0 ew ?_
      refine runC ?_
      refine r_call1p 0 eu ?_
      refine runC ?_
      refine r_call1p 0 ev ?_
      refine runC ?_
      refine r_call1p 0 eg ?_
      refine run ?_
      exact r_end [0] [] (hm := keep_one _)
    | false =>
      refine ⟨⟨97 + a, 1960 + b, 1960 + b + d, 1 + m, 2, 0, w, 60 * t, s⟩, c9, hc9, ?_⟩
      dsimp only [ruleC]
      refine fnT C.spec_l12DrawRule ?_
      refine runC ?_
      refine r_call1p 0 ea ?_
      refine runC ?_
      refine r_call1p 0 eb ?_
      refine runC ?_
      refine r_call1p 0 em ?_
      refine runC ?_
      refine r_call1p 0 et ?_
      refine runC ?_
      refine r_call1p 0 (es 1) ?_
      refine runC ?_
      refine r_call1p 0 ed ?_
      refine runC ?_
      refine r_call1p 0 ew ?_
      refine runC ?_
      refine r_call1p 0 eu ?_
      refine runC ?_
      refine r_call1p 0 ev ?_
      refine run ?_
      exact r_end [0] [] (hm := keep_one _)

end Go.TL
