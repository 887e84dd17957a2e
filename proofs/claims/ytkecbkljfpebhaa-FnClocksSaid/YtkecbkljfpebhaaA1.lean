/- Small functions of both sides. No conditions but those that are written. -/
import Derived.Test.YtkecbkljfpebhaaNm
namespace Go.TL
set_option linter.unusedSimpArgs false
open Go.Proofs Go.RowKit
attribute [local irreducible] wpOpsT wpT EndT Ex.seq Ex.block W

set_option maxHeartbeats 4000000 in
theorem impl_within (x lo hi : Int) : CallsT Try.prog [] F.impl_within [.v (.int .i64 x), .v (.int .i64 lo), .v (.int .i64 hi)] (.v (.bool (decide (lo ≤ x ∧ x ≤ hi)))) [] := by
  refine fnT C.impl_within ?_
  refine run ?_
  exact r_end [] []
instance (x lo hi : Int) : Con Try.prog F.impl_within [.v (.int .i64 x), .v (.int .i64 lo), .v (.int .i64 hi)] True (.v (.bool (decide (lo ≤ x ∧ x ≤ hi)))) [] := ⟨fun _ => impl_within x lo hi⟩

set_option maxHeartbeats 4000000 in
theorem spec_l1In (x lo hi : Int) : CallsT Try.prog [] F.spec_l1In [.v (.int .i64 x), .v (.int .i64 lo), .v (.int .i64 hi)] (.v (.bool (decide (lo ≤ x ∧ x ≤ hi)))) [] := by
  refine fnT C.spec_l1In ?_
  refine run ?_
  exact r_end [] []
instance (x lo hi : Int) : Con Try.prog F.spec_l1In [.v (.int .i64 x), .v (.int .i64 lo), .v (.int .i64 hi)] True (.v (.bool (decide (lo ≤ x ∧ x ≤ hi)))) [] := ⟨fun _ => spec_l1In x lo hi⟩

def putNumL : Nat → Int → List Int
  | 0, _ => []
  | k + 1, x => if 127 < x then (x % 128 + 128) :: putNumL k (x / 128) else [x]

theorem putNumL_len : ∀ (k : Nat) (x : Int), (putNumL k x).length ≤ k
  | 0, _ => Nat.le_refl _
  | k + 1, x => by
    unfold putNumL
    split
    · have := putNumL_len k (x / 128); simp; omega
    · simp

set_option maxHeartbeats 4000000 in
theorem impl_PutNum (x : Int) (hpre : 0 ≤ x ∧ x < 2 ^ 63) : CallsT Try.prog [] F.impl_PutNum [.v (.int .i64 x)] (.ref 0 [] 0 (putNumL 10 x).length) [⟨1, true, rowT u8C (putNumL 10 x)⟩] := by
  refine fnT C.impl_PutNum ?_
  obtain ⟨h0, h1⟩ := hpre
  refine run ?_
  refine r_loop_of (σ := Int × List Int × Nat) (fun s => [(0, .v (.int .i64 s.1)), (3, .ref 0 [] 0 s.2.1.length)]) (fun s => [⟨1, true, rowT u8C s.2.1⟩]) (fun s => 0 ≤ s.1 ∧ s.2.1 ++ putNumL (s.2.2 + 1) s.1 = putNumL 10 x ∧ s.1 < 2 ^ (7 * s.2.2 + 7) ∧ s.2.1.length + s.2.2 = 9 ∧ s.1 < 2 ^ 63) (fun s => s.1.toNat) (x, [], 9) [0] [] ?_ Gc.of ?_
  · exact ⟨h0, by simp, by dsimp only; omega, by simp, h1⟩
  rintro ⟨x, l, k⟩ ⟨hx, hl, hk, hn, hx2⟩
  dsimp only at hx hl hk hn hx2 ⊢
  refine run ?_
  refine r_ifd (fun h => ?_) (fun h => ?_)
  · refine run ?_
    obtain ⟨k, rfl⟩ : ∃ j, k = j + 1 := ⟨k - 1, by cases k with | zero => simp at hk; omega | succ k => rfl⟩
    refine ⟨(x / 128, l ++ [x % 128 + 128], k), [2], [], Gc.of, by dsimp only; omega, by dsimp only; omega, ?_, ?_, by simp; omega, by dsimp only; omega⟩
    · dsimp only
      rw [← hl]
      simp [putNumL, h]
    · dsimp only
      rw [show 7 * (k + 1) + 7 = 7 * k + 7 + 7 by omega, Int.pow_add] at hk
      omega
  · refine run ?_
    have e := hl.symm
    rw [show putNumL (k + 1) x = [x] by simp [putNumL, h]] at e
    rw [e]
    exact r_end [2] []
instance (x : Int) : Con Try.prog F.impl_PutNum [.v (.int .i64 x)] (0 ≤ x ∧ x < 2 ^ 63) (.ref 0 [] 0 (putNumL 10 x).length) [⟨1, true, rowT u8C (putNumL 10 x)⟩] := ⟨fun h => impl_PutNum x h⟩

/-- A text's form. -/
def textL (s : ByteArray) : List Int := putNumL 10 s.size ++ strL s

theorem nums_len : ∀ l : List Int, (l.flatMap (putNumL 10)).length ≤ 10 * l.length
  | [] => by simp
  | x :: l => by
    have h1 := nums_len l
    have h2 := putNumL_len 10 x
    simp only [List.flatMap_cons, List.length_append, List.length_cons]
    omega

set_option maxHeartbeats 4000000 in
theorem impl_putNums (l : List Int) (k : Nat) (hpre : (∀ x ∈ l, 0 ≤ x ∧ x < 2 ^ 63) ∧ l.length ≤ 1000) : CallsT Try.prog [] F.impl_putNums [.sl false k l.length 1 (rowT i64C l)] (.ref 0 [] 0 (l.flatMap (putNumL 10)).length) [⟨1, true, rowT u8C (l.flatMap (putNumL 10))⟩] := by
  refine fnT C.impl_putNums ?_
  obtain ⟨hl, hn⟩ := hpre
  refine run ?_
  refine r_for l.length (fun i => [(3, .ref 0 [] 0 ((l.take i).flatMap (putNumL 10)).length), (7, .sl false k l.length 1 (rowT i64C l)), (8, .v (.int .i64 l.length)), (9, .v (.int .i64 i))]) (fun i => [⟨1, true, rowT u8C ((l.take i).flatMap (putNumL 10))⟩]) (fun _ => True) [0] [] trivial Gc.of (fun i hi _ => ?_) (fun _ => ?_)
  · have hb := hl _ (nth_mem hi)
    have h1 := nums_len (l.take i)
    have h2 := putNumL_len 10 (nth l i)
    rw [List.length_take] at h1
    refine run ?_
    have e : (l.take i).flatMap (putNumL 10) ++ putNumL 10 (nth l i) = (l.take (i + 1)).flatMap (putNumL 10) := by
      rw [take_nth hi]
      simp
    rw [e]
    exact ⟨[2], [], Gc.of, trivial⟩
  · refine run ?_
    rw [List.take_length]
    exact r_end [0] []
instance (l : List Int) (k : Nat) : Con Try.prog F.impl_putNums [.sl false k l.length 1 (rowT i64C l)] ((∀ x ∈ l, 0 ≤ x ∧ x < 2 ^ 63) ∧ l.length ≤ 1000) (.ref 0 [] 0 (l.flatMap (putNumL 10)).length) [⟨1, true, rowT u8C (l.flatMap (putNumL 10))⟩] := ⟨fun h => impl_putNums l k h⟩

end Go.TL
