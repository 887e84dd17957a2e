/- Sources that are drawn right: what is drawn, in plain words. No conditions but those that are written. -/
import Derived.Test.YtkecbkljfpebhaaX20
import Derived.Test.YtkecbkljfpebhaaTAny
namespace Go.TL
set_option linter.unusedSimpArgs false
open Go.Proofs Go.RowKit
attribute [local irreducible] wpOpsT wpT EndT Ex.seq Ex.block W

/-- What is drawn below k, and where the cursor stands then; whether it is once. -/
def bD (l : List Int) (k : Int) (c : Int × Int) : Int × (Int × Int) := (belowV k l c.1 c.2, (belowN k l c.1, belowS k c.2))
def oD (l : List Int) (k : Int) (c : Int × Int) : Bool × (Int × Int) := (decide ((bD l k c).1 = 0), (bD l k c).2)
theorem bD_ok (l : List Int) (k : Int) (c : Int × Int) (hc : curP l c.1) (hk : 0 < k ∧ k ≤ 1000000000) : (0 ≤ (bD l k c).1 ∧ (bD l k c).1 < k) ∧ curP l (bD l k c).2.1 ∧ CallsT Try.prog [⟨0, true, [.sl false 0 l.length 1 (rowT u8C l), .v (.int .i64 c.1), .v (.int .i64 c.2)]⟩] F.spec_l1Below [.ptr 0 [] 0, .v (.int .i64 k)] (.v (.int .i64 ((bD l k c).1))) [⟨0, true, [.sl false 0 l.length 1 (rowT u8C l), .v (.int .i64 ((bD l k c).2.1)), .v (.int .i64 ((bD l k c).2.2))]⟩] :=
  ⟨below_b hk.1 l c.1 c.2, below_next k hc, spec_l1Below l c.1 c.2 k ⟨hc, hk⟩⟩
theorem oD_ok (l : List Int) (k : Int) (c : Int × Int) (hc : curP l c.1) (hk : 0 < k ∧ k ≤ 1000000000) : curP l (oD l k c).2.1 ∧ CallsT Try.prog [⟨0, true, [.sl false 0 l.length 1 (rowT u8C l), .v (.int .i64 c.1), .v (.int .i64 c.2)]⟩] F.spec_l1Once [.ptr 0 [] 0, .v (.int .i64 k)] (.v (.bool (oD l k c).1)) [⟨0, true, [.sl false 0 l.length 1 (rowT u8C l), .v (.int .i64 ((oD l k c).2.1)), .v (.int .i64 ((oD l k c).2.2))]⟩] := by
  obtain ⟨h1, h2, h3⟩ := bD_ok l k c hc hk
  refine ⟨h2, ?_⟩
  unfold oD
  generalize bD l k c = w at *
  refine fnT C.spec_l1Once ?_
  refine runC ?_
  refine r_call1p 0 h3 ?_
  refine run ?_
  exact r_end [0] [] (hm := keep_one _)

/-- Rules that are drawn while i is below what is drawn. -/
def ruF (l : List Int) (f : Int × Int → RuleV × (Int × Int)) : Nat → Int → Int × Int → List RuleV → (Int × Int) × List RuleV
  | 0, _, c, o => (c, o)
  | k + 1, i, c, o => if i < (bD l 5 c).1 then ruF l f k (i + 1) (f (bD l 5 c).2).2 (o ++ [(f (bD l 5 c).2).1]) else ((bD l 5 c).2, o)
/-- The rule of a zone that is drawn. -/
def zrF (l : List Int) (rules : List RuleV) (c : Int × Int) : Int × (Int × Int) :=
  if 0 < rules.length then (if (oD l 4 c).1 = true then (0, (oD l 4 c).2) else ((nth rules (bD l rules.length (oD l 4 c).2).1).name, (bD l rules.length (oD l 4 c).2).2)) else (0, c)
def zoF (l : List Int) (rules : List RuleV) : Nat → Int → Int → Int × Int → List ZoneV → (Int × Int) × List ZoneV
  | 0, _, _, c, o => (c, o)
  | k + 1, i, nm, c, o => if i < (bD l 4 c).1 then
      zoF l rules k (i + 1) (nm + 1 + (bD l 2 (zrF l rules (bD l 50 (bD l 4 c).2).2).2).1) (bD l 2 (zrF l rules (bD l 50 (bD l 4 c).2).2).2).2
        (o ++ [⟨nm, 30 * (bD l 50 (bD l 4 c).2).1 - 720, (zrF l rules (bD l 50 (bD l 4 c).2).2).1⟩])
      else ((bD l 4 c).2, o)
def liF (l : List Int) (zones : List ZoneV) : Nat → Int → Int × Int → List LinkV → (Int × Int) × List LinkV
  | 0, _, c, o => (c, o)
  | k + 1, i, c, o => if i < (bD l 3 c).1 ∧ 0 < (zones.length : Int) then liF l zones k (i + 1) (bD l zones.length (bD l 3 c).2).2 (o ++ [⟨84 + i, (nth zones (bD l zones.length (bD l 3 c).2).1).name⟩]) else ((bD l 3 c).2, o)
def fiF (f : Int × Int → RuleV × (Int × Int)) : Nat → Int × Int → List RuleV → (Int × Int) × List RuleV
  | 0, c, o => (c, o)
  | k + 1, c, o => if (o.length : Int) < 20 then fiF f k (f c).2 (o ++ [(f c).1]) else (c, o)
def rgG (l : List Int) (c : Int × Int) : List RuleV → List ZoneV → List LinkV → Store
  | [], [], [] => [⟨0, true, [.sl false 0 l.length 1 (rowT u8C l), .v (.int .i64 c.1), .v (.int .i64 c.2)]⟩, ⟨0, true, [.v (.slice none 0 0), .v (.slice none 0 0), .v (.slice none 0 0)]⟩, ⟨0, true, [.v (.slice none 0 0), .v (.slice none 0 0), .v (.slice none 0 0)]⟩]
  | [], [], q :: qs => [⟨0, true, [.sl false 0 l.length 1 (rowT u8C l), .v (.int .i64 c.1), .v (.int .i64 c.2)]⟩, ⟨0, true, [.v (.slice none 0 0), .v (.slice none 0 0), .v (.slice none 0 0)]⟩, ⟨0, true, [.v (.slice none 0 0), .v (.slice none 0 0), .ref 3 [] 0 (q :: qs).length]⟩, ⟨2, true, rowT linkC (q :: qs)⟩]
  | [], y :: ys, [] => [⟨0, true, [.sl false 0 l.length 1 (rowT u8C l), .v (.int .i64 c.1), .v (.int .i64 c.2)]⟩, ⟨0, true, [.v (.slice none 0 0), .v (.slice none 0 0), .v (.slice none 0 0)]⟩, ⟨0, true, [.v (.slice none 0 0), .ref 3 [] 0 (y :: ys).length, .v (.slice none 0 0)]⟩, ⟨3, true, rowT zoneC (y :: ys)⟩]
  | [], y :: ys, q :: qs => [⟨0, true, [.sl false 0 l.length 1 (rowT u8C l), .v (.int .i64 c.1), .v (.int .i64 c.2)]⟩, ⟨0, true, [.v (.slice none 0 0), .v (.slice none 0 0), .v (.slice none 0 0)]⟩, ⟨0, true, [.v (.slice none 0 0), .ref 3 [] 0 (y :: ys).length, .ref 4 [] 0 (q :: qs).length]⟩, ⟨3, true, rowT zoneC (y :: ys)⟩, ⟨2, true, rowT linkC (q :: qs)⟩]
  | x :: xs, [], [] => [⟨0, true, [.sl false 0 l.length 1 (rowT u8C l), .v (.int .i64 c.1), .v (.int .i64 c.2)]⟩, ⟨0, true, [.v (.slice none 0 0), .v (.slice none 0 0), .v (.slice none 0 0)]⟩, ⟨0, true, [.ref 3 [] 0 (x :: xs).length, .v (.slice none 0 0), .v (.slice none 0 0)]⟩, ⟨9, true, rowT ruleC (x :: xs)⟩]
  | x :: xs, [], q :: qs => [⟨0, true, [.sl false 0 l.length 1 (rowT u8C l), .v (.int .i64 c.1), .v (.int .i64 c.2)]⟩, ⟨0, true, [.v (.slice none 0 0), .v (.slice none 0 0), .v (.slice none 0 0)]⟩, ⟨0, true, [.ref 3 [] 0 (x :: xs).length, .v (.slice none 0 0), .ref 4 [] 0 (q :: qs).length]⟩, ⟨9, true, rowT ruleC (x :: xs)⟩, ⟨2, true, rowT linkC (q :: qs)⟩]
  | x :: xs, y :: ys, [] => [⟨0, true, [.sl false 0 l.length 1 (rowT u8C l), .v (.int .i64 c.1), .v (.int .i64 c.2)]⟩, ⟨0, true, [.v (.slice none 0 0), .v (.slice none 0 0), .v (.slice none 0 0)]⟩, ⟨0, true, [.ref 3 [] 0 (x :: xs).length, .ref 4 [] 0 (y :: ys).length, .v (.slice none 0 0)]⟩, ⟨9, true, rowT ruleC (x :: xs)⟩, ⟨3, true, rowT zoneC (y :: ys)⟩]
  | x :: xs, y :: ys, q :: qs => [⟨0, true, [.sl false 0 l.length 1 (rowT u8C l), .v (.int .i64 c.1), .v (.int .i64 c.2)]⟩, ⟨0, true, [.v (.slice none 0 0), .v (.slice none 0 0), .v (.slice none 0 0)]⟩, ⟨0, true, [.ref 3 [] 0 (x :: xs).length, .ref 4 [] 0 (y :: ys).length, .ref 5 [] 0 (q :: qs).length]⟩, ⟨9, true, rowT ruleC (x :: xs)⟩, ⟨3, true, rowT zoneC (y :: ys)⟩, ⟨2, true, rowT linkC (q :: qs)⟩]
def rgS (l : List Int) (c : Int × Int) : List RuleV → List ZoneV → List LinkV → Store
  | [], [], [] => [⟨0, true, [.sl false 0 l.length 1 (rowT u8C l), .v (.int .i64 c.1), .v (.int .i64 c.2)]⟩]
  | [], [], q :: qs => [⟨0, true, [.sl false 0 l.length 1 (rowT u8C l), .v (.int .i64 c.1), .v (.int .i64 c.2)]⟩, ⟨2, true, rowT linkC (q :: qs)⟩]
  | [], y :: ys, [] => [⟨0, true, [.sl false 0 l.length 1 (rowT u8C l), .v (.int .i64 c.1), .v (.int .i64 c.2)]⟩, ⟨3, true, rowT zoneC (y :: ys)⟩]
  | [], y :: ys, q :: qs => [⟨0, true, [.sl false 0 l.length 1 (rowT u8C l), .v (.int .i64 c.1), .v (.int .i64 c.2)]⟩, ⟨3, true, rowT zoneC (y :: ys)⟩, ⟨2, true, rowT linkC (q :: qs)⟩]
  | x :: xs, [], [] => [⟨0, true, [.sl false 0 l.length 1 (rowT u8C l), .v (.int .i64 c.1), .v (.int .i64 c.2)]⟩, ⟨9, true, rowT ruleC (x :: xs)⟩]
  | x :: xs, [], q :: qs => [⟨0, true, [.sl false 0 l.length 1 (rowT u8C l), .v (.int .i64 c.1), .v (.int .i64 c.2)]⟩, ⟨9, true, rowT ruleC (x :: xs)⟩, ⟨2, true, rowT linkC (q :: qs)⟩]
  | x :: xs, y :: ys, [] => [⟨0, true, [.sl false 0 l.length 1 (rowT u8C l), .v (.int .i64 c.1), .v (.int .i64 c.2)]⟩, ⟨9, true, rowT ruleC (x :: xs)⟩, ⟨3, true, rowT zoneC (y :: ys)⟩]
  | x :: xs, y :: ys, q :: qs => [⟨0, true, [.sl false 0 l.length 1 (rowT u8C l), .v (.int .i64 c.1), .v (.int .i64 c.2)]⟩, ⟨9, true, rowT ruleC (x :: xs)⟩, ⟨3, true, rowT zoneC (y :: ys)⟩, ⟨2, true, rowT linkC (q :: qs)⟩]
def rgT : List RuleV → List ZoneV → List LinkV → T
  | [], [], [] => .agg [.v (.slice none 0 0), .v (.slice none 0 0), .v (.slice none 0 0)]
  | [], [], q :: qs => .agg [.v (.slice none 0 0), .v (.slice none 0 0), .ref 1 [] 0 (q :: qs).length]
  | [], y :: ys, [] => .agg [.v (.slice none 0 0), .ref 1 [] 0 (y :: ys).length, .v (.slice none 0 0)]
  | [], y :: ys, q :: qs => .agg [.v (.slice none 0 0), .ref 1 [] 0 (y :: ys).length, .ref 2 [] 0 (q :: qs).length]
  | x :: xs, [], [] => .agg [.ref 1 [] 0 (x :: xs).length, .v (.slice none 0 0), .v (.slice none 0 0)]
  | x :: xs, [], q :: qs => .agg [.ref 1 [] 0 (x :: xs).length, .v (.slice none 0 0), .ref 2 [] 0 (q :: qs).length]
  | x :: xs, y :: ys, [] => .agg [.ref 1 [] 0 (x :: xs).length, .ref 2 [] 0 (y :: ys).length, .v (.slice none 0 0)]
  | x :: xs, y :: ys, q :: qs => .agg [.ref 1 [] 0 (x :: xs).length, .ref 2 [] 0 (y :: ys).length, .ref 3 [] 0 (q :: qs).length]

end Go.TL
