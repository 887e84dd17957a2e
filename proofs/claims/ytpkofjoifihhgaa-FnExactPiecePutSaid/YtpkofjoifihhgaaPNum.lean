/- The program's PutNum. Its argument is no negative number. -/
import Derived.Test.YtpkofjoifihhgaaProg
import Derived.KernelRfl
import Derived.Test.YtpkofjoifihhgaaTGo2
namespace Go.TL
open Go.Proofs Go.RowKit

@[go_sem] theorem s3 : szT Try.prog 3 = some 1 := by kernel_rfl
@[go_sem] theorem a3 : aggT Try.prog 3 = some false := by kernel_rfl
@[go_sem] theorem e43 : elemT Try.prog 43 = some 5 := by kernel_rfl
@[go_sem] theorem s5 : szT Try.prog 5 = some 1 := by kernel_rfl
@[go_sem] theorem b5 : bytesT Try.prog 5 = some 1 := by kernel_rfl
@[go_sem] theorem z5 : zeroT Try.prog 5 = some [.v (.int .u8 0)] := by rfl
@[go_sem] theorem z3 : zeroT Try.prog 3 = some [.v (.int .i64 0)] := by rfl
@[go_sem] theorem ni43 : notInt Try.prog 43 = true := by kernel_rfl
@[go_sem] theorem ni9 : notInt Try.prog 9 = true := by kernel_rfl
@[go_sem] theorem u3 : Try.prog.underlying 3 = some (.int .i64) := by kernel_rfl
@[go_sem] theorem u5 : Try.prog.underlying 5 = some (.int .u8) := by kernel_rfl
@[go_sem] theorem u9 : Try.prog.underlying 9 = some .string := by kernel_rfl
@[go_sem] theorem u43 : Try.prog.underlying 43 = some (.slice 5) := by kernel_rfl
@[go_sem] theorem bs43 : byteSlice Try.prog 43 = true := by kernel_rfl
@[go_sem] theorem e67 : elemT Try.prog 67 = some 3 := by kernel_rfl

def putNumL : Nat → Int → List Int
  | 0, _ => []
  | k + 1, x => if 127 < x then (x % 128 + 128) :: putNumL k (x / 128) else [x]

theorem putNumL_len : ∀ (k : Nat) (x : Int), (putNumL k x).length ≤ k
  | 0, _ => Nat.le_refl _
  | k + 1, x => by
    unfold putNumL
    split
    · have := putNumL_len k (x / 128); simp; omega
    · simp

theorem low7 (x : Int) (h : 0 ≤ x) (h2 : x < 2 ^ 63) : or64 (and64 x 127) 128 % 256 = x % 128 + 128 := by
  rw [and64_mask 7 (by decide) x h h2 127 rfl, or64_high 7 (by decide) _ (by omega) (by omega) 128 rfl]
  omega

set_option maxHeartbeats 400000 in
theorem iPutNum (x : Int) (h0 : 0 ≤ x) (h1 : x < 2 ^ 63) : CallsT Try.prog [] 51 [.v (.int .i64 x)] (.ref 0 [] 0 (putNumL 10 x).length) [⟨1, true, rowT u8C (putNumL 10 x)⟩] := by
  refine CallsT.of_W Try.func51 rfl (by decide +kernel) (by rw [Try.ntmps51]; simp) (W.of ?_)
  rw [Try.ntmps51]
  refine go ?_
  refine r_ifd ?_ ?_
  · intro h; omega
  intro h
  refine go ?_
  refine r_loop_of (σ := Int × List Int × Nat) (fun s => [(0, .v (.int .i64 s.1)), (3, .ref 0 [] 0 s.2.1.length)]) (fun s => [⟨1, true, rowT u8C s.2.1⟩]) (fun s => 0 ≤ s.1 ∧ s.2.1 ++ putNumL (s.2.2 + 1) s.1 = putNumL 10 x ∧ s.1 < 2 ^ (7 * s.2.2 + 7) ∧ s.2.1.length + s.2.2 = 9 ∧ s.1 < 2 ^ 63) (fun s => s.1.toNat) (x, [], 9) [0] ?_ Gc.of ?_
  · exact ⟨h0, by simp, by dsimp only; omega, by simp, h1⟩
  rintro ⟨x, l, k⟩ ⟨hx, hl, hk, hn, hx2⟩
  dsimp only at hx hl hk hn hx2 ⊢
  refine go ?_
  refine r_ifd ?_ ?_
  · intro h
    refine go ?_
    rw [low7 x hx hx2]
    refine r_app u8E l [x % 128 + 128] (by simp; omega) ?_
    refine go ?_
    rw [show shrI .i64 x 7 = x / 128 from shr64 x 7 (by decide)]
    obtain ⟨k, rfl⟩ : ∃ j, k = j + 1 := ⟨k - 1, by cases k with | zero => simp at hk; omega | succ k => rfl⟩
    refine ⟨(x / 128, l ++ [x % 128 + 128], k), [2], Gc.of, ?_, ?_⟩
    · dsimp only; omega
    · refine ⟨?_, ?_, ?_, ?_, ?_⟩
      · dsimp only; omega
      · dsimp only
        rw [← hl]
        simp [putNumL, h]
      · dsimp only
        rw [show 7 * (k + 1) + 7 = 7 * k + 7 + 7 by omega, Int.pow_add] at hk
        omega
      · simp; omega
      · dsimp only; omega
  · intro h
    refine go ?_
    rw [show x % 256 = x by omega]
    refine r_app u8E l [x] (by simp; omega) ?_
    refine go ?_
    have e := hl.symm
    rw [show putNumL (k + 1) x = [x] by simp [putNumL, h]] at e
    rw [e]
    exact r_end [2]

end Go.TL
