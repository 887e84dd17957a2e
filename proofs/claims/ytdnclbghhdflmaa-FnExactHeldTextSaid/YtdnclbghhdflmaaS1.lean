/- Words of 32 bits, both sides. No conditions but those that are written. -/
import Derived.Test.YtdnclbghhdflmaaTClo
import Derived.Test.YtdnclbghhdflmaaNm
namespace Go.TL
open Go.Proofs Go.RowKit
attribute [local irreducible] wpOpsT wpT EndT Ex.seq Ex.block W

theorem nat_of {x : Int} (h : 0 ≤ x) : ∃ n : Nat, x = n := ⟨x.toNat, (Int.toNat_of_nonneg h).symm⟩
theorem xor64_nat (x y : Nat) (hx : x < 2 ^ 63) (hy : y < 2 ^ 63) : xor64 x y = ((x ^^^ y : Nat) : Int) := by
  unfold xor64
  rw [IntWalk.i64_left]
  have h1 : (BitVec.ofInt 64 (x : Int)).toNat = x := by simp; omega
  have h2 : (BitVec.ofInt 64 (y : Int)).toNat = y := by simp; omega
  rw [BitVec.toNat_xor, h1, h2]
  have := Nat.xor_lt_two_pow hx hy
  rw [wrap64_in]; omega
theorem xor_b {a b : Int} (ha : 0 ≤ a ∧ a < 4294967296) (hb : 0 ≤ b ∧ b < 4294967296) : 0 ≤ xor64 a b ∧ xor64 a b < 4294967296 := by
  obtain ⟨x, rfl⟩ := nat_of ha.1
  obtain ⟨y, rfl⟩ := nat_of hb.1
  rw [xor64_nat x y (by omega) (by omega)]
  have := Nat.xor_lt_two_pow (n := 32) (show x < 2 ^ 32 by omega) (show y < 2 ^ 32 by omega)
  omega
theorem and_b {a b : Int} (ha : 0 ≤ a ∧ a < 4294967296) (hb : 0 ≤ b ∧ b < 4294967296) : 0 ≤ and64 a b ∧ and64 a b < 4294967296 := by
  obtain ⟨x, rfl⟩ := nat_of ha.1
  obtain ⟨y, rfl⟩ := nat_of hb.1
  rw [and64_nat x y (by omega) (by omega)]
  have := Nat.and_lt_two_pow (n := 32) x (show y < 2 ^ 32 by omega)
  omega
theorem or_b {k : Nat} (hk : k ≤ 63) {a b : Int} (ha : 0 ≤ a ∧ a < 2 ^ k) (hb : 0 ≤ b ∧ b < 2 ^ k) : 0 ≤ or64 a b ∧ or64 a b < 2 ^ k := by
  obtain ⟨x, rfl⟩ := nat_of ha.1
  obtain ⟨y, rfl⟩ := nat_of hb.1
  have e : ((2 : Nat) ^ k : Int) = ((2 ^ k : Nat) : Int) := by norm_cast
  have h1 : x < 2 ^ k := by have := ha.2; norm_cast at this
  have h2 : y < 2 ^ k := by have := hb.2; norm_cast at this
  have hm : 2 ^ k ≤ 2 ^ 63 := Nat.pow_le_pow_right (by decide) hk
  rw [or64_nat x y (by omega) (by omega)]
  have := Nat.or_lt_two_pow h1 h2
  exact ⟨by omega, by norm_cast⟩
@[go_sem] theorem min64 {n : Nat} (h : n ≤ 64) : min n 64 = n := Nat.min_eq_left h
@[go_sem] theorem and64_all {x : Int} (h : 0 ≤ x ∧ x < 9223372036854775808) : and64 x 4294967295 = x % 4294967296 := and64_mask 32 (by decide) x h.1 (by omega) 4294967295 rfl

/-- 32 bits turned right. -/
def turnI (x n : Int) : Int := or64 (x / 2 ^ n.toNat) (x * 2 ^ (32 - n).toNat) % 4294967296
theorem turn_b (x n : Int) : 0 ≤ turnI x n ∧ turnI x n < 4294967296 := by unfold turnI; omega

theorem turn_p {x n : Int} (h : (0 ≤ x ∧ x < 4294967296) ∧ 2 ≤ n ∧ n ≤ 31) : (0 ≤ x * 2 ^ (32 - n).toNat ∧ x * 2 ^ (32 - n).toNat < 9223372036854775808) ∧ 0 ≤ or64 (x / 2 ^ n.toNat) (x * 2 ^ (32 - n).toNat) ∧ or64 (x / 2 ^ n.toNat) (x * 2 ^ (32 - n).toNat) < 9223372036854775808 := by
  have h1 : (2 : Int) ^ (32 - n).toNat ≤ 2 ^ 30 := by
    have := Nat.pow_le_pow_right (n := 2) (by decide) (show (32 - n).toNat ≤ 30 by omega)
    exact_mod_cast this
  have h2 : (0 : Int) < 2 ^ (32 - n).toNat := Int.pow_pos (by decide)
  have h3 : 0 ≤ x * 2 ^ (32 - n).toNat := Int.mul_nonneg h.1.1 (by omega)
  have h4 : x * 2 ^ (32 - n).toNat ≤ 4294967295 * 2 ^ 30 := Int.le_trans (Int.mul_le_mul_of_nonneg_right (show x ≤ 4294967295 by omega) (by omega)) (Int.mul_le_mul_of_nonneg_left h1 (by decide))
  have h5 : 0 ≤ x / 2 ^ n.toNat := Int.ediv_nonneg h.1.1 (Int.pow_nonneg (by decide))
  have h6 : x / 2 ^ n.toNat ≤ x := Int.ediv_le_self _ h.1.1
  exact ⟨⟨h3, by omega⟩, or_b (k := 63) (by decide) ⟨h5, by omega⟩ ⟨h3, by omega⟩⟩

set_option maxHeartbeats 4000000 in
theorem spec_l2Low (x : Int) (hpre : 0 ≤ x ∧ x < 9223372036854775808) : CallsT Try.prog [] F.spec_l2Low [.v (.int .i64 x)] (.v (.int .i64 (x % 4294967296))) [] := by
  refine fnT C.spec_l2Low ?_
  refine run ?_
  exact r_end [] []
instance (x : Int) : Con Try.prog F.spec_l2Low [.v (.int .i64 x)] (0 ≤ x ∧ x < 9223372036854775808) (.v (.int .i64 (x % 4294967296))) [] := ⟨fun h => spec_l2Low x h⟩

set_option maxHeartbeats 4000000 in
theorem spec_l2Turn (x n : Int) (hpre : (0 ≤ x ∧ x < 4294967296) ∧ 2 ≤ n ∧ n ≤ 31) : CallsT Try.prog [] F.spec_l2Turn [.v (.int .i64 x), .v (.int .i64 n)] (.v (.int .i64 (turnI x n))) [] := by
  refine fnT C.spec_l2Turn ?_
  have hp := turn_p hpre
  refine run ?_
  exact r_end [] []
instance (x n : Int) : Con Try.prog F.spec_l2Turn [.v (.int .i64 x), .v (.int .i64 n)] ((0 ≤ x ∧ x < 4294967296) ∧ 2 ≤ n ∧ n ≤ 31) (.v (.int .i64 (turnI x n))) [] := ⟨fun h => spec_l2Turn x n h⟩

set_option maxHeartbeats 4000000 in
theorem impl_turnRight (x n : Int) (hpre : (0 ≤ x ∧ x < 4294967296) ∧ 2 ≤ n ∧ n ≤ 31) : CallsT Try.prog [] F.impl_turnRight [.v (.int .i64 x), .v (.int .i64 n)] (.v (.int .i64 (turnI x n))) [] := by
  refine fnT C.impl_turnRight ?_
  have hp := turn_p hpre
  refine run ?_
  exact r_end [] []
instance (x n : Int) : Con Try.prog F.impl_turnRight [.v (.int .i64 x), .v (.int .i64 n)] ((0 ≤ x ∧ x < 4294967296) ∧ 2 ≤ n ∧ n ≤ 31) (.v (.int .i64 (turnI x n))) [] := ⟨fun h => impl_turnRight x n h⟩

end Go.TL
