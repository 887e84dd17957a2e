/- Numbers and texts: the reference. Sizes of parts. No conditions but those that are written. -/
import Derived.Test.YtkecbkljfpebhaaA1
namespace Go.TL
set_option linter.unusedSimpArgs false
open Go.Proofs Go.RowKit
attribute [local irreducible] wpOpsT wpT EndT Ex.seq Ex.block W

set_option maxHeartbeats 4000000 in
theorem spec_PutNum (x : Int) (hpre : 0 ≤ x ∧ x < 2 ^ 63) : CallsT Try.prog [] F.spec_PutNum [.v (.int .i64 x)] (.ref 0 [] 0 (putNumL 10 x).length) [⟨1, true, rowT u8C (putNumL 10 x)⟩] := by
  refine fnT C.spec_PutNum ?_
  obtain ⟨h0, h1⟩ := hpre
  refine run ?_
  refine r_loop_of (σ := Int × List Int × Nat) (fun s => [(0, .v (.int .i64 s.1)), (3, .ref 0 [] 0 s.2.1.length)]) (fun s => [⟨1, true, rowT u8C s.2.1⟩]) (fun s => 0 ≤ s.1 ∧ s.2.1 ++ putNumL (s.2.2 + 1) s.1 = putNumL 10 x ∧ s.1 < 2 ^ (7 * s.2.2 + 7) ∧ s.2.1.length + s.2.2 = 9 ∧ s.1 < 2 ^ 63) (fun s => s.1.toNat) (x, [], 9) [0] [] ?_ Gc.of ?_
  · exact ⟨h0, by simp, by dsimp only; omega, by simp, h1⟩
  rintro ⟨x, l, k⟩ ⟨hx, hl, hk, hn, hx2⟩
  dsimp only at hx hl hk hn hx2 ⊢
  refine run ?_
  refine r_ifd (fun h => ?_) (fun h => ?_)
  · refine run ?_
    obtain ⟨k, rfl⟩ : ∃ j, k = j + 1 := ⟨k - 1, by cases k with | zero => simp at hk; omega | succ k => rfl⟩
    refine ⟨(x / 128, l ++ [x % 128 + 128], k), [2], [], Gc.of, by dsimp only; omega, by dsimp only; omega, ?_, ?_, by simp; omega, by dsimp only; omega⟩
    · dsimp only
      rw [← hl]
      simp [putNumL, h]
    · dsimp only
      rw [show 7 * (k + 1) + 7 = 7 * k + 7 + 7 by omega, Int.pow_add] at hk
      omega
  · refine run ?_
    have e := hl.symm
    rw [show putNumL (k + 1) x = [x] by simp [putNumL, h]] at e
    rw [e]
    exact r_end [2] []
instance (x : Int) : Con Try.prog F.spec_PutNum [.v (.int .i64 x)] (0 ≤ x ∧ x < 2 ^ 63) (.ref 0 [] 0 (putNumL 10 x).length) [⟨1, true, rowT u8C (putNumL 10 x)⟩] := ⟨fun h => spec_PutNum x h⟩

/-- How many parts a size has. -/
def partsN (n : Int) : Int := if 0 ≤ n ∧ n ≤ 1000 then (n + 15) / 16 else -1
theorem partsN_b (n : Int) : -1 ≤ partsN n ∧ partsN n ≤ 63 := by unfold partsN; split <;> omega

end Go.TL
