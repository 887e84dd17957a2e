/- New fleets that are held, and their likeness. No conditions but those that are written. -/
import Derived.Test.YthkahdjgkcccgaaW2
namespace Go.TL
set_option linter.unusedSimpArgs false
open Go.Proofs Go.RowKit
attribute [local irreducible] wpOpsT wpT EndT Ex.seq Ex.block W

set_option maxHeartbeats 8000000 in
set_option maxHeartbeats 4000000 in
theorem laws_heldMemberS (q n : Nat) (k : Int) (hpre : 0 < k ∧ k + 11 * n ≤ 100000000) : CallsT Try.prog [] F.laws_heldMemberS [.sl false q (marksE k n).length 19 (rowT emC (marksE k n)), .v (.int .i64 k)] (.v (.int .i64 (k + 11 * n))) [] := by
  refine fnT C.laws_heldMemberS ?_
  obtain ⟨h0, h1⟩ := hpre
  have hl := marksE_len k n
  refine run ?_
  refine r_for n (fun i => [(0, .sl false q (marksE k n).length 19 (rowT emC (marksE k n))), (1, .v (.int .i64 (k + 11 * (i : Int)))), (5, .v (.int .i64 i))]) (fun _ => []) (fun _ => True) [] [] trivial Gc.of (fun i hi _ => ?_) (fun _ => ?_)
  · have hx := marksE_nth k hi
    have e11 : k + 11 * ((i + 1 : Nat) : Int) = k + 11 * (i : Int) + 1 + 1 + 1 + 1 + 1 + 1 + 1 + 1 + 1 + 1 + 1 := by omega
    have hki : k + 11 * (i : Int) + 11 ≤ 100000000 := by omega
    have hk0 : 0 < k + 11 * (i : Int) := by omega
    rw [e11]
    generalize k + 11 * (i : Int) = m at *
    have x0 : (nth (marksE k n) (i : Nat)).up = decide (m % 3 = 0) := by rw [hx]; rfl
    have x1 : (nth (marksE k n) (i : Nat)).room = m + 1 := by rw [hx]; rfl
    have x2 : (nth (marksE k n) (i : Nat)).id = m + 1 + 1 := by rw [hx]; rfl
    have x3 : (nth (marksE k n) (i : Nat)).of = m + 1 + 1 + 1 := by rw [hx]; rfl
    have x4 : (nth (marksE k n) (i : Nat)).role = m + 1 + 1 + 1 + 1 := by rw [hx]; rfl
    have x5 : (nth (marksE k n) (i : Nat)).commit = m + 1 + 1 + 1 + 1 + 1 := by rw [hx]; rfl
    have x6 : (nth (marksE k n) (i : Nat)).term = m + 1 + 1 + 1 + 1 + 1 + 1 := by rw [hx]; rfl
    have x7 : (nth (marksE k n) (i : Nat)).vote = m + 1 + 1 + 1 + 1 + 1 + 1 + 1 := by rw [hx]; rfl
    have x8 : (nth (marksE k n) (i : Nat)).applied = m + 1 + 1 + 1 + 1 + 1 + 1 + 1 + 1 := by rw [hx]; rfl
    have x9 : (nth (marksE k n) (i : Nat)).rof = m + 1 + 1 + 1 + 1 + 1 + 1 + 1 + 1 + 1 := by rw [hx]; rfl
    have x10 : (nth (marksE k n) (i : Nat)).act = m + 1 + 1 + 1 + 1 + 1 + 1 + 1 + 1 + 1 + 1 := by rw [hx]; rfl
    clear hx
    refine run ?_
    refine r_ifd (fun h => ?_) (fun _ => ?_)
    · exfalso
      rw [x0] at h
      simp at h
    refine run ?_
    exact ⟨[], [], Gc.of, trivial⟩
  · refine run ?_
    exact r_end [] []
instance (q n : Nat) (k : Int) : Con Try.prog F.laws_heldMemberS [.sl false q (marksE k n).length 19 (rowT emC (marksE k n)), .v (.int .i64 k)] (0 < k ∧ k + 11 * n ≤ 100000000) (.v (.int .i64 (k + 11 * n))) [] := ⟨fun h => laws_heldMemberS q n k h⟩

end Go.TL
