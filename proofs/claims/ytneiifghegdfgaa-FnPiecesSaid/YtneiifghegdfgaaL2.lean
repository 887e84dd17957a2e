/- The law of PieceNew on trees. No conditions but those that are written. -/
import Derived.Test.YtneiifghegdfgaaA4
import Derived.Test.YtneiifghegdfgaaOp0
namespace Go.TL
set_option linter.unusedSimpArgs false
open Go.Proofs Go.RowKit
attribute [local irreducible] wpOpsT wpT EndT Ex.seq Ex.block W

theorem pieceNew_l (r sz : Int) : [1, r, sz].flatMap (putNumL 10) = cat1 1 (putNumL 10 r) ++ putNumL 10 sz := by
  simp [putNumL, cat1]

set_option maxHeartbeats 4000000 in
theorem spec_PieceNew (r sz : Int) (d : ByteArray) (hpre : d.size ≤ 140737488351232) : CallsT Try.prog [] F.spec_PieceNew [.v (.int .i64 r), .v (.int .i64 sz), .v (.string d)] (.v (.string (pieceNewB r sz d))) [] := by
  refine fnT C.spec_PieceNew ?_
  have hpo := putNumL_len 10 r
  have hps := putNumL_len 10 sz
  refine run ?_
  refine r_ifd (fun h => ?_) (fun h => ?_)
  · rw [show pieceNewB r sz d = ⟨#[]⟩ from if_neg (by grind)]
    refine run ?_
    exact r_end [] []
  · have h1 : newOk sz d ∧ 1 ≤ r ∧ r ≤ 1000 := by grind
    rw [show pieceNewB r sz d = strOfT (cat1 1 (putNumL 10 r) ++ putNumL 10 sz) ++ d from (if_pos h1).trans (by rw [pieceNew_l])]
    have hsz : 0 ≤ sz ∧ sz ≤ 1000 := h1.1.1
    have hs := strOf_size (cat1 1 (putNumL 10 r) ++ putNumL 10 sz)
    simp only [List.length_append, cat1_len] at hs
    refine run ?_
    exact r_end [] []
instance (r sz : Int) (d : ByteArray) : Con Try.prog F.spec_PieceNew [.v (.int .i64 r), .v (.int .i64 sz), .v (.string d)] (d.size ≤ 140737488351232) (.v (.string (pieceNewB r sz d))) [] := ⟨fun h => spec_PieceNew r sz d h⟩

end Go.TL
