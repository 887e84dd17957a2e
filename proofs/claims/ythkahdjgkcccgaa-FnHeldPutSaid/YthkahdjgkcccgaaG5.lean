/- What is drawn of commands: that there is a value and a place of the cursor, whatever the bytes. No conditions but those that are written. -/
import Derived.Test.YthkahdjgkcccgaaG2
import Derived.Test.YthkahdjgkcccgaaJS1S7
import Derived.Test.YthkahdjgkcccgaaE4
namespace Go.TL
set_option linter.unusedSimpArgs false
open Go.Proofs Go.RowKit
attribute [local irreducible] wpOpsT wpT EndT Ex.seq Ex.block W

theorem below_ex (l : List Int) (c : Int × Int) (n : Int) (hc : curP l c.1) (hn : 0 < n ∧ n ≤ 1000000000) : ∃ (v : Int) (c' : Int × Int), (0 ≤ v ∧ v < n) ∧ curP l c'.1 ∧ CallsT Try.prog [⟨0, true, [.sl false 0 l.length 1 (rowT u8C l), .v (.int .i64 c.1), .v (.int .i64 c.2)]⟩] F.spec_l1Below [.ptr 0 [] 0, .v (.int .i64 n)] (.v (.int .i64 v)) [⟨0, true, [.sl false 0 l.length 1 (rowT u8C l), .v (.int .i64 (c'.1)), .v (.int .i64 (c'.2))]⟩] :=
  ⟨belowV n l c.1 c.2, (belowN n l c.1, belowS n c.2), below_b hn.1 l c.1 c.2, below_next n hc, spec_l1Below l c.1 c.2 n ⟨hc, hn⟩⟩
theorem pick_ex (l : List Int) (c : Int × Int) (m : List Int) (hc : curP l c.1) (hm : 0 < m.length ∧ m.length ≤ 1000000000) : ∃ (v : Int) (c' : Int × Int), v ∈ m ∧ curP l c'.1 ∧ ∀ k, CallsT Try.prog [⟨0, true, [.sl false 0 l.length 1 (rowT u8C l), .v (.int .i64 c.1), .v (.int .i64 c.2)]⟩] F.spec_l1PickInt [.ptr 0 [] 0, .sl false k m.length 1 (rowT i64C m)] (.v (.int .i64 v)) [⟨0, true, [.sl false 0 l.length 1 (rowT u8C l), .v (.int .i64 (c'.1)), .v (.int .i64 (c'.2))]⟩] := by
  have hb := below_b (n := m.length) (by omega) l c.1 c.2
  refine ⟨nth m (belowV m.length l c.1 c.2), (belowN m.length l c.1, belowS m.length c.2), ?_, below_next _ hc, fun k => spec_l1PickInt l c.1 c.2 k m ⟨hc, hm⟩⟩
  obtain ⟨i, hi⟩ := Int.eq_ofNat_of_zero_le hb.1
  rw [hi]
  exact nth_mem (by omega)
theorem once_ex (l : List Int) (c : Int × Int) (n : Int) (hc : curP l c.1) (hn : 0 < n ∧ n ≤ 1000000000) : ∃ (v : Bool) (c' : Int × Int), curP l c'.1 ∧ CallsT Try.prog [⟨0, true, [.sl false 0 l.length 1 (rowT u8C l), .v (.int .i64 c.1), .v (.int .i64 c.2)]⟩] F.spec_l1Once [.ptr 0 [] 0, .v (.int .i64 n)] (.v (.bool v)) [⟨0, true, [.sl false 0 l.length 1 (rowT u8C l), .v (.int .i64 (c'.1)), .v (.int .i64 (c'.2))]⟩] := by
  obtain ⟨v, c1, hv, hc1, h1⟩ := below_ex l c n hc hn
  refine ⟨decide (v = 0), c1, hc1, ?_⟩
  refine fnT C.spec_l1Once ?_
  refine runC ?_
  refine r_call1p 0 h1 ?_
  refine run ?_
  exact r_end [0] [] (hm := keep_one _)

/-- A row of one, as a row. -/
def lit1 (x : Int) : List Int := [x]
theorem lit1_len (x : Int) : (lit1 x).length = 1 := rfl
/-- A digest. -/
theorem digest_ex (l : List Int) (c : Int × Int) (hc : curP l c.1) : ∃ (d : ByteArray) (c' : Int × Int), d.size = 32 ∧ curP l c'.1 ∧ CallsT Try.prog [⟨0, true, [.sl false 0 l.length 1 (rowT u8C l), .v (.int .i64 c.1), .v (.int .i64 c.2)]⟩] F.spec_l5DrawDigest [.ptr 0 [] 0] (.v (.string d)) [⟨0, true, [.sl false 0 l.length 1 (rowT u8C l), .v (.int .i64 (c'.1)), .v (.int .i64 (c'.2))]⟩] := by
  obtain ⟨v, c1, hv, hc1, h1⟩ := below_ex l c 4 hc (by omega)
  have hs := spec_Sha 1 (lit1 v) ⟨fun x hx => by simp [lit1] at hx; omega, by rw [lit1_len]; omega⟩
  refine ⟨strOfT (shaL (lit1 v)), c1, by rw [strOf_size, shaL, if_neg (by rw [lit1_len]; omega)]; exact outL_len _ 8, hc1, ?_⟩
  refine fnT C.spec_l5DrawDigest ?_
  refine runC ?_
  refine r_call1p 0 h1 ?_
  refine r_do ?_
  refine r_lit (enc := u8C) (lit1 _) ?_
  refine r_callp true hs ?_
  refine run ?_
  exact r_end [0] [] (hm := keep_one _)

end Go.TL
