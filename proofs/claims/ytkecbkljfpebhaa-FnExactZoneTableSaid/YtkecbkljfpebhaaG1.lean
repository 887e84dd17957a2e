/- What is drawn: the cursor. No conditions but those that are written. -/
import Derived.Test.YtkecbkljfpebhaaTLm
import Derived.Test.YtkecbkljfpebhaaNm
import Derived.Test.YtkecbkljfpebhaaTSlc
import Derived.Test.YtkecbkljfpebhaaTGet
namespace Go.TL
set_option linter.unusedSimpArgs false
open Go.Proofs Go.RowKit
attribute [local irreducible] wpOpsT wpT EndT Ex.seq Ex.block W

def stepSt (st : Int) : Int := wrap64 (wrap64 (st * 6364136223846793005) + 1442695040888963407)
def byte0 (st : Int) : Int := and64 (xor64 (st / 8589934592) (st / 35184372088832)) 255
theorem and255_b (x : Int) : 0 ≤ and64 x 255 ∧ and64 x 255 ≤ 255 := by
  unfold and64
  have h1 : (BitVec.ofInt 64 x &&& BitVec.ofInt 64 255).toNat ≤ 255 := by
    rw [BitVec.toNat_and]
    exact Nat.le_trans Nat.and_le_right (by decide)
  rw [IntWalk.i64_left, wrap64_in (by omega)]
  omega
def drawB (l : List Int) (pos st : Int) : Int := if pos < l.length then (byte0 (stepSt st) + nth l pos) % 256 else byte0 (stepSt st)
def drawN (l : List Int) (pos : Int) : Int := if pos < l.length then pos + 1 else pos
theorem drawB_b (l : List Int) (pos st : Int) : 0 ≤ drawB l pos st ∧ drawB l pos st ≤ 255 := by
  unfold drawB byte0
  have := and255_b (xor64 (stepSt st / 8589934592) (stepSt st / 35184372088832))
  split <;> omega
/-- A cursor that is right. -/
def curP (l : List Int) (pos : Int) : Prop := (∀ x ∈ l, 0 ≤ x ∧ x < 256) ∧ l.length ≤ 140737488351232 ∧ 0 ≤ pos ∧ pos ≤ l.length
theorem cur_next {l : List Int} {pos : Int} (h : curP l pos) : curP l (drawN l pos) := by
  refine ⟨h.1, h.2.1, ?_, ?_⟩ <;> (have h1 := h.2.2.1; have h2 := h.2.2.2; unfold drawN; split <;> omega)

theorem spec_l1Byte (l : List Int) (pos st : Int) (hpre : curP l pos) : CallsT Try.prog [⟨0, true, [.sl false 0 l.length 1 (rowT u8C l), .v (.int .i64 pos), .v (.int .i64 st)]⟩] F.spec_l1Byte [.ptr 0 [] 0] (.v (.int .i64 (drawB l pos st))) [⟨0, true, [.sl false 0 l.length 1 (rowT u8C l), .v (.int .i64 (drawN l pos)), .v (.int .i64 (stepSt st))]⟩] := by
  obtain ⟨hb, hl, hp0, hp1⟩ := hpre
  refine fnT C.spec_l1Byte ?_
  refine run ?_
  refine r_ifd (fun h => ?_) (fun h => ?_)
  · have hn := hb _ (nth_mem (l := l) (i := pos.toNat) (by omega))
    rw [nth_toNat] at hn
    have h0 := and255_b (xor64 (stepSt st / 8589934592) (stepSt st / 35184372088832))
    unfold stepSt at h0
    rw [show drawB l pos st = (byte0 (stepSt st) + nth l pos) % 256 from if_pos h, show drawN l pos = pos + 1 from if_pos h]
    refine run ?_
    exact r_end [0] [] (hm := keep_one _)
  · rw [show drawB l pos st = byte0 (stepSt st) from if_neg h, show drawN l pos = pos from if_neg h]
    refine run ?_
    exact r_end [0] [] (hm := keep_one _)
instance (l : List Int) (pos st : Int) : Con1 Try.prog ⟨0, true, [.sl false 0 l.length 1 (rowT u8C l), .v (.int .i64 pos), .v (.int .i64 st)]⟩ F.spec_l1Byte [.ptr 0 [] 0] (curP l pos) (.v (.int .i64 (drawB l pos st))) ⟨0, true, [.sl false 0 l.length 1 (rowT u8C l), .v (.int .i64 (drawN l pos)), .v (.int .i64 (stepSt st))]⟩ := ⟨fun h => spec_l1Byte l pos st h⟩

/-- Below n, n at most 256. -/
theorem spec_l1Below1 (l : List Int) (pos st n : Int) (hpre : curP l pos) (hn : 0 < n ∧ n ≤ 256) : CallsT Try.prog [⟨0, true, [.sl false 0 l.length 1 (rowT u8C l), .v (.int .i64 pos), .v (.int .i64 st)]⟩] F.spec_l1Below [.ptr 0 [] 0, .v (.int .i64 n)] (.v (.int .i64 (drawB l pos st % n))) [⟨0, true, [.sl false 0 l.length 1 (rowT u8C l), .v (.int .i64 (drawN l pos)), .v (.int .i64 (stepSt st))]⟩] := by
  have hd := drawB_b l pos st
  refine fnT C.spec_l1Below ?_
  refine runC ?_
  refine r_call1 ?_
  refine run ?_
  exact r_end [0] [] (hm := keep_one _)

def word4 (l : List Int) (pos st : Int) : Int := drawB l pos st * 16777216 + drawB l (drawN l pos) (stepSt st) * 65536 + drawB l (drawN l (drawN l pos)) (stepSt (stepSt st)) * 256 + drawB l (drawN l (drawN l (drawN l pos))) (stepSt (stepSt (stepSt st)))
def belowV (n : Int) (l : List Int) (pos st : Int) : Int := if n ≤ 256 then drawB l pos st % n else word4 l pos st % n
def belowN (n : Int) (l : List Int) (pos : Int) : Int := if n ≤ 256 then drawN l pos else drawN l (drawN l (drawN l (drawN l pos)))
def belowS (n : Int) (st : Int) : Int := if n ≤ 256 then stepSt st else stepSt (stepSt (stepSt (stepSt st)))
theorem below_next (n : Int) {l : List Int} {pos : Int} (h : curP l pos) : curP l (belowN n l pos) := by
  unfold belowN
  split
  · exact cur_next h
  · exact cur_next (cur_next (cur_next (cur_next h)))
theorem below_b {n : Int} (h : 0 < n) (l : List Int) (pos st : Int) : 0 ≤ belowV n l pos st ∧ belowV n l pos st < n := by
  unfold belowV
  split <;> exact ⟨Int.emod_nonneg _ (by omega), Int.emod_lt_of_pos _ h⟩
theorem spec_l1Below (l : List Int) (pos st n : Int) (hpre : curP l pos ∧ 0 < n ∧ n ≤ 1000000000) : CallsT Try.prog [⟨0, true, [.sl false 0 l.length 1 (rowT u8C l), .v (.int .i64 pos), .v (.int .i64 st)]⟩] F.spec_l1Below [.ptr 0 [] 0, .v (.int .i64 n)] (.v (.int .i64 (belowV n l pos st))) [⟨0, true, [.sl false 0 l.length 1 (rowT u8C l), .v (.int .i64 (belowN n l pos)), .v (.int .i64 (belowS n st))]⟩] := by
  obtain ⟨hc, hn0, hn⟩ := hpre
  by_cases hs : n ≤ 256
  · rw [belowV, if_pos hs, belowN, if_pos hs, belowS, if_pos hs]
    exact spec_l1Below1 l pos st n hc ⟨hn0, hs⟩
  rw [belowV, if_neg hs, belowN, if_neg hs, belowS, if_neg hs]
  have c1 := cur_next hc
  have c2 := cur_next c1
  have c3 := cur_next c2
  have b0 := drawB_b l pos st
  have b1 := drawB_b l (drawN l pos) (stepSt st)
  have b2 := drawB_b l (drawN l (drawN l pos)) (stepSt (stepSt st))
  have b3 := drawB_b l (drawN l (drawN l (drawN l pos))) (stepSt (stepSt (stepSt st)))
  rw [show word4 l pos st = drawB l pos st * 16777216 + drawB l (drawN l pos) (stepSt st) * 65536 + drawB l (drawN l (drawN l pos)) (stepSt (stepSt st)) * 256 + drawB l (drawN l (drawN l (drawN l pos))) (stepSt (stepSt (stepSt st))) from rfl]
  refine fnT C.spec_l1Below ?_
  refine runC ?_
  refine r_call1 ?_
  refine runC ?_
  refine r_call1 ?_
  refine runC ?_
  refine r_call1 ?_
  refine runC ?_
  refine r_call1 ?_
  refine run ?_
  exact r_end [0] [] (hm := keep_one _)
instance (l : List Int) (pos st n : Int) : Con1 Try.prog ⟨0, true, [.sl false 0 l.length 1 (rowT u8C l), .v (.int .i64 pos), .v (.int .i64 st)]⟩ F.spec_l1Below [.ptr 0 [] 0, .v (.int .i64 n)] (curP l pos ∧ 0 < n ∧ n ≤ 1000000000) (.v (.int .i64 (belowV n l pos st))) ⟨0, true, [.sl false 0 l.length 1 (rowT u8C l), .v (.int .i64 (belowN n l pos)), .v (.int .i64 (belowS n st))]⟩ := ⟨fun h => spec_l1Below l pos st n h⟩

end Go.TL
