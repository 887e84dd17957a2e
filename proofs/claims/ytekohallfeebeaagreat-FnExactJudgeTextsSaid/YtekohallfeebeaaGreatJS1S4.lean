/- Texts joined. No conditions but those that are written. -/
import Derived.Test.YtekohallfeebeaaGreatTClo
import Derived.Test.YtekohallfeebeaaGreatNm
import Derived.Test.YtekohallfeebeaaGreatTGet
/- Words of 32 bits, both sides. No conditions but those that are written. -/
namespace Go.TL
open Go.Proofs Go.RowKit
attribute [local irreducible] wpOpsT wpT EndT Ex.seq Ex.block W

theorem nat_of {x : Int} (h : 0 ≤ x) : ∃ n : Nat, x = n := ⟨x.toNat, (Int.toNat_of_nonneg h).symm⟩
theorem xor64_nat (x y : Nat) (hx : x < 2 ^ 63) (hy : y < 2 ^ 63) : xor64 x y = ((x ^^^ y : Nat) : Int) := by
  unfold xor64
  rw [IntWalk.i64_left]
  have h1 : (BitVec.ofInt 64 (x : Int)).toNat = x := by simp; omega
  have h2 : (BitVec.ofInt 64 (y : Int)).toNat = y := by simp; omega
  rw [BitVec.toNat_xor, h1, h2]
  have := Nat.xor_lt_two_pow hx hy
  rw [wrap64_in]; omega
theorem xor_b {a b : Int} (ha : 0 ≤ a ∧ a < 4294967296) (hb : 0 ≤ b ∧ b < 4294967296) : 0 ≤ xor64 a b ∧ xor64 a b < 4294967296 := by
  obtain ⟨x, rfl⟩ := nat_of ha.1
  obtain ⟨y, rfl⟩ := nat_of hb.1
  rw [xor64_nat x y (by omega) (by omega)]
  have := Nat.xor_lt_two_pow (n := 32) (show x < 2 ^ 32 by omega) (show y < 2 ^ 32 by omega)
  omega
theorem and_b {a b : Int} (ha : 0 ≤ a ∧ a < 4294967296) (hb : 0 ≤ b ∧ b < 4294967296) : 0 ≤ and64 a b ∧ and64 a b < 4294967296 := by
  obtain ⟨x, rfl⟩ := nat_of ha.1
  obtain ⟨y, rfl⟩ := nat_of hb.1
  rw [and64_nat x y (by omega) (by omega)]
  have := Nat.and_lt_two_pow (n := 32) x (show y < 2 ^ 32 by omega)
  omega
theorem or_b {k : Nat} (hk : k ≤ 63) {a b : Int} (ha : 0 ≤ a ∧ a < 2 ^ k) (hb : 0 ≤ b ∧ b < 2 ^ k) : 0 ≤ or64 a b ∧ or64 a b < 2 ^ k := by
  obtain ⟨x, rfl⟩ := nat_of ha.1
  obtain ⟨y, rfl⟩ := nat_of hb.1
  have e : ((2 : Nat) ^ k : Int) = ((2 ^ k : Nat) : Int) := by norm_cast
  have h1 : x < 2 ^ k := by have := ha.2; norm_cast at this
  have h2 : y < 2 ^ k := by have := hb.2; norm_cast at this
  have hm : 2 ^ k ≤ 2 ^ 63 := Nat.pow_le_pow_right (by decide) hk
  rw [or64_nat x y (by omega) (by omega)]
  have := Nat.or_lt_two_pow h1 h2
  exact ⟨by omega, by norm_cast⟩
@[go_sem] theorem min64 {n : Nat} (h : n ≤ 64) : min n 64 = n := Nat.min_eq_left h
@[go_sem] theorem and64_all {x : Int} (h : 0 ≤ x ∧ x < 9223372036854775808) : and64 x 4294967295 = x % 4294967296 := and64_mask 32 (by decide) x h.1 (by omega) 4294967295 rfl

/-- 32 bits turned right. -/
def turnI (x n : Int) : Int := or64 (x / 2 ^ n.toNat) (x * 2 ^ (32 - n).toNat) % 4294967296
theorem turn_b (x n : Int) : 0 ≤ turnI x n ∧ turnI x n < 4294967296 := by unfold turnI; omega

theorem turn_p {x n : Int} (h : (0 ≤ x ∧ x < 4294967296) ∧ 2 ≤ n ∧ n ≤ 31) : (0 ≤ x * 2 ^ (32 - n).toNat ∧ x * 2 ^ (32 - n).toNat < 9223372036854775808) ∧ 0 ≤ or64 (x / 2 ^ n.toNat) (x * 2 ^ (32 - n).toNat) ∧ or64 (x / 2 ^ n.toNat) (x * 2 ^ (32 - n).toNat) < 9223372036854775808 := by
  have h1 : (2 : Int) ^ (32 - n).toNat ≤ 2 ^ 30 := by
    have := Nat.pow_le_pow_right (n := 2) (by decide) (show (32 - n).toNat ≤ 30 by omega)
    exact_mod_cast this
  have h2 : (0 : Int) < 2 ^ (32 - n).toNat := Int.pow_pos (by decide)
  have h3 : 0 ≤ x * 2 ^ (32 - n).toNat := Int.mul_nonneg h.1.1 (by omega)
  have h4 : x * 2 ^ (32 - n).toNat ≤ 4294967295 * 2 ^ 30 := Int.le_trans (Int.mul_le_mul_of_nonneg_right (show x ≤ 4294967295 by omega) (by omega)) (Int.mul_le_mul_of_nonneg_left h1 (by decide))
  have h5 : 0 ≤ x / 2 ^ n.toNat := Int.ediv_nonneg h.1.1 (Int.pow_nonneg (by decide))
  have h6 : x / 2 ^ n.toNat ≤ x := Int.ediv_le_self _ h.1.1
  exact ⟨⟨h3, by omega⟩, or_b (k := 63) (by decide) ⟨h5, by omega⟩ ⟨h3, by omega⟩⟩

set_option maxHeartbeats 4000000 in
theorem spec_l2Low (x : Int) (hpre : 0 ≤ x ∧ x < 9223372036854775808) : CallsT Tryz.prog [] F.spec_l2Low [.v (.int .i64 x)] (.v (.int .i64 (x % 4294967296))) [] := by
  refine fnT C.spec_l2Low ?_
  refine run ?_
  exact r_end [] []
instance (x : Int) : Con Tryz.prog F.spec_l2Low [.v (.int .i64 x)] (0 ≤ x ∧ x < 9223372036854775808) (.v (.int .i64 (x % 4294967296))) [] := ⟨fun h => spec_l2Low x h⟩

set_option maxHeartbeats 4000000 in
theorem spec_l2Turn (x n : Int) (hpre : (0 ≤ x ∧ x < 4294967296) ∧ 2 ≤ n ∧ n ≤ 31) : CallsT Tryz.prog [] F.spec_l2Turn [.v (.int .i64 x), .v (.int .i64 n)] (.v (.int .i64 (turnI x n))) [] := by
  refine fnT C.spec_l2Turn ?_
  have hp := turn_p hpre
  refine run ?_
  exact r_end [] []
instance (x n : Int) : Con Tryz.prog F.spec_l2Turn [.v (.int .i64 x), .v (.int .i64 n)] ((0 ≤ x ∧ x < 4294967296) ∧ 2 ≤ n ∧ n ≤ 31) (.v (.int .i64 (turnI x n))) [] := ⟨fun h => spec_l2Turn x n h⟩

set_option maxHeartbeats 4000000 in
theorem impl_turnRight (x n : Int) (hpre : (0 ≤ x ∧ x < 4294967296) ∧ 2 ≤ n ∧ n ≤ 31) : CallsT Tryz.prog [] F.impl_turnRight [.v (.int .i64 x), .v (.int .i64 n)] (.v (.int .i64 (turnI x n))) [] := by
  refine fnT C.impl_turnRight ?_
  have hp := turn_p hpre
  refine run ?_
  exact r_end [] []
instance (x n : Int) : Con Tryz.prog F.impl_turnRight [.v (.int .i64 x), .v (.int .i64 n)] ((0 ≤ x ∧ x < 4294967296) ∧ 2 ≤ n ∧ n ≤ 31) (.v (.int .i64 (turnI x n))) [] := ⟨fun h => impl_turnRight x n h⟩

end Go.TL

/- Words of 32 bits in rows: keys, first words, loads at a place. No conditions but those that are written. -/
namespace Go.TL
open Go.Proofs Go.RowKit
attribute [local irreducible] wpOpsT wpT EndT Ex.seq Ex.block W

def keysL : List Int := [1116352408, 1899447441, 3049323471, 3921009573, 961987163, 1508970993, 2453635748, 2870763221,
    3624381080, 310598401, 607225278, 1426881987, 1925078388, 2162078206, 2614888103, 3248222580,
    3835390401, 4022224774, 264347078, 604807628, 770255983, 1249150122, 1555081692, 1996064986,
    2554220882, 2821834349, 2952996808, 3210313671, 3336571891, 3584528711, 113926993, 338241895,
    666307205, 773529912, 1294757372, 1396182291, 1695183700, 1986661051, 2177026350, 2456956037,
    2730485921, 2820302411, 3259730800, 3345764771, 3516065817, 3600352804, 4094571909, 275423344,
    430227734, 506948616, 659060556, 883997877, 958139571, 1322822218, 1537002063, 1747873779,
    1955562222, 2024104815, 2227730452, 2361852424, 2428436474, 2756734187, 3204031479, 3329325298]
def firstL : List Int := [1779033703, 3144134277, 1013904242, 2773480762, 1359893119, 2600822924, 528734635, 1541459225]

theorem load_first (r : Nat) (p : List Nat) : loadN (loadCell r p) (rowT i64C firstL) 0 8 = some (rowT i64C firstL) := rfl
theorem load_keys (r : Nat) (p : List Nat) : loadN (loadCell r p) (rowT i64C keysL) 0 64 = some (rowT i64C keysL) := by kernel_rfl
attribute [go_sem] load_first load_keys

set_option maxHeartbeats 4000000 in
theorem spec_l2Keys  : CallsT Tryz.prog [] F.spec_l2Keys [] (.sl false 0 keysL.length 1 (rowT i64C keysL)) [] := by
  refine fnT C.spec_l2Keys ?_
  refine r_seq ?_
  refine r_region ?_
  refine r_do ?_
  refine r_ops ?_
  refine x_seq_n ?_
  refine r_seq ?_
  refine r_region ?_
  refine r_lit (enc := i64C) (k := 0) keysL (S' := [] ++ [⟨1, true, rowT i64C keysL⟩]) ?_ (hs := by kernel_rfl)
  refine run ?_
  exact r_end [] [0]
instance  : Con Tryz.prog F.spec_l2Keys [] True (.sl false 0 keysL.length 1 (rowT i64C keysL)) [] := ⟨fun _ => spec_l2Keys ⟩

set_option maxHeartbeats 4000000 in
theorem impl_constants  : CallsT Tryz.prog [] F.impl_constants [] (.agg (rowT i64C keysL)) [] := by
  refine fnT C.impl_constants ?_
  refine r_seq ?_
  refine r_region ?_
  refine r_do (t := .ptr 0 [] 0) (S' := [⟨0, true, rowT i64C (List.replicate 64 0)⟩]) ?_ (hs := by kernel_rfl)
  refine r_ops ?_
  refine x_seq_n ?_
  refine r_seq ?_
  refine r_region ?_
  refine r_by (t := .agg (rowT i64C keysL)) (S' := [⟨0, true, rowT i64C (List.replicate 64 0)⟩]) (by kernel_rfl) ?_
  refine r_do0 (t := .dead) (S' := [⟨0, true, rowT i64C keysL⟩]) ?_ (hs := by kernel_rfl)
  refine run ?_
  exact r_end [] [] (ts := [.agg (rowT i64C keysL)]) (hr := by kernel_rfl)
instance  : Con Tryz.prog F.impl_constants [] True (.agg (rowT i64C keysL)) [] := ⟨fun _ => impl_constants ⟩

set_option maxHeartbeats 4000000 in
theorem impl_firstWords  : CallsT Tryz.prog [] F.impl_firstWords [] (.agg (rowT i64C firstL)) [] := by
  refine fnT C.impl_firstWords ?_
  refine run ?_
  refine r_by (t := .agg (rowT i64C firstL)) (S' := [⟨0, true, rowT i64C (List.replicate 8 0)⟩]) (by kernel_rfl) ?_
  refine r_do0 (t := .dead) (S' := [⟨0, true, rowT i64C firstL⟩]) ?_ (hs := by kernel_rfl)
  refine run ?_
  exact r_end [] [] (ts := [.agg (rowT i64C firstL)]) (hr := by kernel_rfl)
instance  : Con Tryz.prog F.impl_firstWords [] True (.agg (rowT i64C firstL)) [] := ⟨fun _ => impl_firstWords ⟩

end Go.TL

/- SHA-256: what a block's words are, what a round does. Plain. No conditions but those that are written. -/
namespace Go.TL
open Go.Proofs Go.RowKit
attribute [local irreducible] wpOpsT wpT EndT Ex.seq Ex.block W

theorem pow_cast (k : Nat) : ((2 ^ k : Nat) : Int) = (2 : Int) ^ k := Int.natCast_pow 2 k
theorem or_add (k : Nat) {x y : Int} (hk : k ≤ 62) (hx : 0 ≤ x) (hs : x * 2 ^ k < 4611686018427387904) (hy : 0 ≤ y ∧ y < 2 ^ k) : or64 (x * 2 ^ k) y = x * 2 ^ k + y := by
  obtain ⟨a, rfl⟩ := nat_of hx
  obtain ⟨b, rfl⟩ := nat_of hy.1
  have h2 : b < 2 ^ k := Int.ofNat_lt.1 (by rw [pow_cast]; exact hy.2)
  have hm : 2 ^ k ≤ 2 ^ 62 := Nat.pow_le_pow_right (by decide) hk
  rw [← pow_cast, ← Int.natCast_mul] at hs ⊢
  have := Nat.two_pow_add_eq_or_of_lt h2 a
  rw [Nat.mul_comm] at this
  generalize ha : a * 2 ^ k = A at *
  generalize 2 ^ k = K at *
  rw [or64_nat _ _ (by omega) (by omega), ← this, Int.natCast_add]

/-- Bytes. -/
def Bytes (b : List Int) : Prop := ∀ x ∈ b, 0 ≤ x ∧ x < 256
theorem Bytes.nth {b : List Int} (h : Bytes b) (i : Int) : 0 ≤ TL.nth b i ∧ TL.nth b i < 256 := by
  unfold TL.nth
  rw [List.getD_eq_getElem?_getD]
  cases hh : b[i.toNat]? with
  | none => exact ⟨Int.le_refl _, by decide⟩
  | some x => exact h x (List.mem_of_getElem? hh)

def wordL (b : List Int) (t : Int) : Int := nth b (4 * t) * 16777216 + nth b (4 * t + 1) * 65536 + nth b (4 * t + 2) * 256 + nth b (4 * t + 3)
theorem word_or {b0 b1 b2 b3 : Int} (h0 : 0 ≤ b0 ∧ b0 < 256) (h1 : 0 ≤ b1 ∧ b1 < 256) (h2 : 0 ≤ b2 ∧ b2 < 256) (h3 : 0 ≤ b3 ∧ b3 < 256) : or64 (or64 (or64 (b0 * 16777216) (b1 * 65536)) (b2 * 256)) b3 = b0 * 16777216 + b1 * 65536 + b2 * 256 + b3 := by
  have e1 := or_add 24 (x := b0) (y := b1 * 65536) (by decide) h0.1 (by omega) (by omega)
  have e2 := or_add 16 (x := b0 * 256 + b1) (y := b2 * 256) (by decide) (by omega) (by omega) (by omega)
  have e3 := or_add 8 (x := (b0 * 256 + b1) * 256 + b2) (y := b3) (by decide) (by omega) (by omega) (by omega)
  simp only [Int.reducePow] at e1 e2 e3
  rw [e1, show b0 * 16777216 + b1 * 65536 = (b0 * 256 + b1) * 65536 by omega, e2, show (b0 * 256 + b1) * 65536 + b2 * 256 = ((b0 * 256 + b1) * 256 + b2) * 256 by omega, e3]

def s0I (x : Int) : Int := xor64 (xor64 (turnI x 7) (turnI x 18)) (x / 8)
def s1I (x : Int) : Int := xor64 (xor64 (turnI x 17) (turnI x 19)) (x / 1024)
def Word (x : Int) : Prop := 0 ≤ x ∧ x < 4294967296
theorem s0_b {x : Int} (h : Word x) : Word (s0I x) := xor_b (xor_b (turn_b _ _) (turn_b _ _)) ⟨by have := h.1; omega, by have := h.2; have := h.1; omega⟩
theorem s1_b {x : Int} (h : Word x) : Word (s1I x) := xor_b (xor_b (turn_b _ _) (turn_b _ _)) ⟨by have := h.1; omega, by have := h.2; have := h.1; omega⟩
def nextW (l : List Int) (t : Int) : Int := (s1I (nth l (t - 2)) + nth l (t - 7) + s0I (nth l (t - 15)) + nth l (t - 16)) % 4294967296
def expW (b : List Int) : Nat → List Int
  | 0 => []
  | t + 1 => expW b t ++ [if t < 16 then wordL b t else nextW (expW b t) t]
theorem expW_len (b : List Int) : ∀ t, (expW b t).length = t
  | 0 => rfl
  | t + 1 => by rw [expW, List.length_append, expW_len b t]; rfl
theorem expW_word {b : List Int} (hb : Bytes b) : ∀ (t : Nat), ∀ x ∈ expW b t, Word x
  | 0 => fun x h => by simp [expW] at h
  | t + 1 => fun x h => by
    rw [expW, List.mem_append, List.mem_singleton] at h
    rcases h with h | rfl
    · exact expW_word hb t x h
    · split
      · have h0 := hb.nth (4 * t)
        have h1 := hb.nth (4 * t + 1)
        have h2 := hb.nth (4 * t + 2)
        have h3 := hb.nth (4 * t + 3)
        unfold Word wordL
        omega
      · unfold Word nextW
        omega
theorem nth_word {l : List Int} (h : ∀ x ∈ l, Word x) (i : Int) : Word (nth l i) := by
  unfold nth
  rw [List.getD_eq_getElem?_getD]
  cases hh : l[i.toNat]? with
  | none => exact ⟨Int.le_refl _, by decide⟩
  | some x => exact h x (List.mem_of_getElem? hh)

/-! ### Rounds -/
structure St where
  a : Int
  b : Int
  c : Int
  d : Int
  e : Int
  f : Int
  g : Int
  h : Int
def stL (s : St) : List Int := [s.a, s.b, s.c, s.d, s.e, s.f, s.g, s.h]
def StW (s : St) : Prop := Word s.a ∧ Word s.b ∧ Word s.c ∧ Word s.d ∧ Word s.e ∧ Word s.f ∧ Word s.g ∧ Word s.h
def chI (e f g : Int) : Int := xor64 (and64 e f) (and64 (xor64 4294967295 e) g)
def majI (a b c : Int) : Int := xor64 (xor64 (and64 a b) (and64 a c)) (and64 b c)
def S1I (e : Int) : Int := xor64 (xor64 (turnI e 6) (turnI e 11)) (turnI e 25)
def S0I (a : Int) : Int := xor64 (xor64 (turnI a 2) (turnI a 13)) (turnI a 22)
theorem ch_b {e f g : Int} (he : Word e) (hf : Word f) (hg : Word g) : Word (chI e f g) := xor_b (and_b he hf) (and_b (xor_b ⟨by decide, by decide⟩ he) hg)
theorem maj_b {a b c : Int} (ha : Word a) (hb : Word b) (hc : Word c) : Word (majI a b c) := xor_b (xor_b (and_b ha hb) (and_b ha hc)) (and_b hb hc)
theorem S1_b (e : Int) : Word (S1I e) := xor_b (xor_b (turn_b _ _) (turn_b _ _)) (turn_b _ _)
theorem S0_b (a : Int) : Word (S0I a) := xor_b (xor_b (turn_b _ _) (turn_b _ _)) (turn_b _ _)
def t1I (s : St) (k w : Int) : Int := s.h + S1I s.e + chI s.e s.f s.g + k + w
def t2I (s : St) : Int := S0I s.a + majI s.a s.b s.c
def stepS (s : St) (k w : Int) : St := ⟨(t1I s k w + t2I s) % 4294967296, s.a, s.b, s.c, (s.d + t1I s k w) % 4294967296, s.e, s.f, s.g⟩
theorem mod_w (x : Int) : Word (x % 4294967296) := by unfold Word; omega
theorem step_w {s : St} (h : StW s) (k w : Int) : StW (stepS s k w) := ⟨mod_w _, h.1, h.2.1, h.2.2.1, mod_w _, h.2.2.2.2.1, h.2.2.2.2.2.1, h.2.2.2.2.2.2.1⟩
def roundS (b : List Int) (s : St) : Nat → St
  | 0 => s
  | t + 1 => stepS (roundS b s t) (nth keysL t) (nth (expW b 64) t)
theorem round_w (b : List Int) {s : St} (h : StW s) : ∀ t, StW (roundS b s t)
  | 0 => h
  | t + 1 => step_w (round_w b h t) _ _
def addS (s v : St) : St := ⟨(s.a + v.a) % 4294967296, (s.b + v.b) % 4294967296, (s.c + v.c) % 4294967296, (s.d + v.d) % 4294967296, (s.e + v.e) % 4294967296, (s.f + v.f) % 4294967296, (s.g + v.g) % 4294967296, (s.h + v.h) % 4294967296⟩
/-- What a block makes of the eight words. -/
def blockS (s : St) (b : List Int) : St := addS s (roundS b s 64)
theorem block_w (s : St) (b : List Int) : StW (blockS s b) := ⟨mod_w _, mod_w _, mod_w _, mod_w _, mod_w _, mod_w _, mod_w _, mod_w _⟩

end Go.TL

/- SHA-256: a block, the reference. No conditions but those that are written. -/
namespace Go.TL
open Go.Proofs Go.RowKit
attribute [local irreducible] wpOpsT wpT EndT Ex.seq Ex.block W

@[go_sem] theorem st_0 (s : St) : nth (stL s) 0 = s.a := rfl
@[go_sem] theorem st_1 (s : St) : nth (stL s) 1 = s.b := rfl
@[go_sem] theorem st_2 (s : St) : nth (stL s) 2 = s.c := rfl
@[go_sem] theorem st_3 (s : St) : nth (stL s) 3 = s.d := rfl
@[go_sem] theorem st_4 (s : St) : nth (stL s) 4 = s.e := rfl
@[go_sem] theorem st_5 (s : St) : nth (stL s) 5 = s.f := rfl
@[go_sem] theorem st_6 (s : St) : nth (stL s) 6 = s.g := rfl
@[go_sem] theorem st_7 (s : St) : nth (stL s) 7 = s.h := rfl
@[go_sem] theorem st_c0 (s : St) : (rowT i64C (stL s))[0]? = some (.v (.int .i64 s.a)) := rfl
@[go_sem] theorem st_c1 (s : St) : (rowT i64C (stL s))[1]? = some (.v (.int .i64 s.b)) := rfl
@[go_sem] theorem st_c2 (s : St) : (rowT i64C (stL s))[2]? = some (.v (.int .i64 s.c)) := rfl
@[go_sem] theorem st_c3 (s : St) : (rowT i64C (stL s))[3]? = some (.v (.int .i64 s.d)) := rfl
@[go_sem] theorem st_c4 (s : St) : (rowT i64C (stL s))[4]? = some (.v (.int .i64 s.e)) := rfl
@[go_sem] theorem st_c5 (s : St) : (rowT i64C (stL s))[5]? = some (.v (.int .i64 s.f)) := rfl
@[go_sem] theorem st_c6 (s : St) : (rowT i64C (stL s))[6]? = some (.v (.int .i64 s.g)) := rfl
@[go_sem] theorem st_c7 (s : St) : (rowT i64C (stL s))[7]? = some (.v (.int .i64 s.h)) := rfl
@[go_sem] theorem expW_0 (b : List Int) : expW b 0 = [] := rfl
theorem expW_1 {b : List Int} {t : Nat} (h : t < 16) : expW b t ++ [wordL b t] = expW b (t + 1) := by rw [expW, if_pos h]
theorem expW_2 {b : List Int} {t : Nat} (h : ¬ t < 16) : expW b t ++ [nextW (expW b t) t] = expW b (t + 1) := by rw [expW, if_neg h]

theorem st_w {s : St} (h : StW s) : ∀ x ∈ stL s, Word x := by
  obtain ⟨h1, h2, h3, h4, h5, h6, h7, h8⟩ := h
  intro x hx
  simp only [stL, List.mem_cons, List.not_mem_nil, or_false] at hx
  rcases hx with rfl | rfl | rfl | rfl | rfl | rfl | rfl | rfl <;> assumption
theorem add_nth (s v : St) : ∀ i : Nat, i < 8 → (nth (stL s) i + nth (stL v) i) % 4294967296 = nth (stL (addS s v)) i
  | 0, _ => rfl
  | 1, _ => rfl
  | 2, _ => rfl
  | 3, _ => rfl
  | 4, _ => rfl
  | 5, _ => rfl
  | 6, _ => rfl
  | 7, _ => rfl
theorem step_cells (v : St) (k w : Int) : [.v (.int .i64 ((t1I v k w % 4294967296 + t2I v % 4294967296) % 4294967296)), .v (.int .i64 v.a), .v (.int .i64 v.b), .v (.int .i64 v.c), .v (.int .i64 ((v.d + t1I v k w % 4294967296) % 4294967296)), .v (.int .i64 v.e), .v (.int .i64 v.f), .v (.int .i64 v.g)] = rowT i64C (stL (stepS v k w)) := by
  rw [show (t1I v k w % 4294967296 + t2I v % 4294967296) % 4294967296 = (t1I v k w + t2I v) % 4294967296 by omega, show (v.d + t1I v k w % 4294967296) % 4294967296 = (v.d + t1I v k w) % 4294967296 by omega]
  rfl
theorem keys_w : ∀ x ∈ keysL, Word x := by unfold Word; decide

set_option maxHeartbeats 4000000 in
theorem spec_l2Block (k k2 : Nat) (s : St) (b : List Int) (hpre : (b.length = 64 ∧ Bytes b) ∧ StW s) : CallsT Tryz.prog [] F.spec_l2Block [.sl false k (stL s).length 1 (rowT i64C (stL s)), .sl false k2 b.length 1 (rowT u8C b)] (.sl false 0 (stL (blockS s b)).length 1 (rowT i64C (stL (blockS s b)))) [] := by
  refine fnT C.spec_l2Block ?_
  obtain ⟨⟨hb1, hb2⟩, hs⟩ := hpre
  have hk8 : (stL s).length = 8 := rfl
  refine run ?_
  refine r_for 16 (fun i => [(0, .sl false k (stL s).length 1 (rowT i64C (stL s))), (1, .sl false k2 b.length 1 (rowT u8C b)), (5, .ref 0 [] 0 (expW b i).length), (6, .v (.int .i64 i))]) (fun i => [⟨1, true, rowT i64C (expW b i)⟩]) (fun _ => True) [0] [] trivial Gc.of (fun i hi _ => ?_) (fun _ => ?_)
  · have h0 := hb2.nth (4 * i)
    have h1 := hb2.nth (4 * i + 1)
    have h2 := hb2.nth (4 * i + 2)
    have h3 := hb2.nth (4 * i + 3)
    have hl := expW_len b i
    refine run ?_
    rw [word_or h0 h1 h2 h3, show nth b (4 * (i : Int)) * 16777216 + nth b (4 * (i : Int) + 1) * 65536 + nth b (4 * (i : Int) + 2) * 256 + nth b (4 * (i : Int) + 3) = wordL b i from rfl, expW_1 hi]
    exact ⟨[2], [], Gc.of, trivial⟩
  refine run ?_
  refine r_for 48 (fun i => [(0, .sl false k (stL s).length 1 (rowT i64C (stL s))), (5, .ref 0 [] 0 (expW b (16 + i)).length), (7, .v (.int .i64 ((16 + i : Nat))))]) (fun i => [⟨1, true, rowT i64C (expW b (16 + i))⟩]) (fun _ => True) [0] [] trivial Gc.of (fun i hi _ => ?_) (fun _ => ?_)
  · have hw := nth_word (expW_word hb2 (16 + i))
    have h2 := hw (16 + i - 2)
    have h7 := hw (16 + i - 7)
    have h15 := hw (16 + i - 15)
    have h16 := hw (16 + i - 16)
    have hs0 := s0_b h15
    have hs1 := s1_b h2
    have hx0 := xor_b (turn_b (nth (expW b (16 + i)) (16 + i - 15)) 7) (turn_b (nth (expW b (16 + i)) (16 + i - 15)) 18)
    have hx1 := xor_b (turn_b (nth (expW b (16 + i)) (16 + i - 2)) 17) (turn_b (nth (expW b (16 + i)) (16 + i - 2)) 19)
    unfold Word at h2 h7 h15 h16
    simp only [Word, s0I, s1I] at hs0 hs1
    have hl := expW_len b (16 + i)
    have e := expW_2 (b := b) (t := 16 + i) (by omega)
    simp only [nextW, s0I, s1I, Int.natCast_add, Int.cast_ofNat_Int] at e
    refine run ?_
    rw [e, show (16 + (i : Int) + 1) = 16 + ((i : Int) + 1) by omega]
    exact ⟨[2], [], Gc.of, trivial⟩
  refine run ?_
  refine r_app (enc := i64C) [] (stL s) (by rw [hk8]; decide) ?_
  rw [List.nil_append]
  refine run ?_
  refine r_for 64 (fun i => [(0, .sl false k (stL s).length 1 (rowT i64C (stL s))), (5, .ref 0 [] 0 (expW b 64).length), (10, .sl false 0 keysL.length 1 (rowT i64C keysL)), (11, .ref 1 [] 0 (stL (roundS b s i)).length), (12, .v (.int .i64 i))]) (fun i => [⟨1, true, rowT i64C (expW b 64)⟩, ⟨1, true, rowT i64C (stL (roundS b s i))⟩]) (fun _ => True) [0, 2] [] trivial Gc.of (fun i hi _ => ?_) (fun _ => ?_)
  · have hv := round_w b hs i
    rw [show roundS b s (i + 1) = stepS (roundS b s i) (nth keysL i) (nth (expW b 64) i) from rfl]
    generalize roundS b s i = v at hv ⊢
    have hk8v : (stL v).length = 8 := rfl
    have hkl : keysL.length = 64 := rfl
    have hwl := expW_len b 64
    have hw := nth_word (expW_word hb2 64) i
    have hk := nth_word keys_w i
    obtain ⟨ha, hb, hc, hd, he, hf, hg, hh⟩ := hv
    have h1 := S1_b v.e
    have h0 := S0_b v.a
    have hch := ch_b he hf hg
    have hmj := maj_b ha hb hc
    simp only [Word, S1I, S0I, chI, majI] at ha hb hc hd he hf hg hh hw hk h1 h0 hch hmj
    have ec := step_cells v (nth keysL i) (nth (expW b 64) i)
    simp only [t1I, t2I, S1I, S0I, chI, majI] at ec
    have hk8s : (stL (stepS v (nth keysL i) (nth (expW b 64) i))).length = 8 := rfl
    refine run ?_
    rw [ec]
    exact ⟨[0, 2], [], Gc.of, trivial⟩
  have hv := round_w b hs 64
  rw [show blockS s b = addS s (roundS b s 64) from rfl]
  generalize roundS b s 64 = v at hv ⊢
  have hk8v : (stL v).length = 8 := rfl
  refine run ?_
  refine r_for 8 (fun i => [(0, .sl false k (stL s).length 1 (rowT i64C (stL s))), (11, .ref 0 [] 0 (stL v).length), (19, .ref 1 [] 0 ((stL (addS s v)).take i).length), (20, .v (.int .i64 i))]) (fun i => [⟨1, true, rowT i64C (stL v)⟩, ⟨1, true, rowT i64C ((stL (addS s v)).take i)⟩]) (fun _ => True) [1, 2] [] trivial Gc.of (fun i hi _ => ?_) (fun _ => ?_)
  · have h1 := nth_word (st_w hs) i
    have h2 := nth_word (st_w hv) i
    have h3 := add_nth s v i hi
    have h4 := take_nth (l := stL (addS s v)) (i := i) hi
    have h5 : ((stL (addS s v)).take i).length ≤ 8 := by rw [List.length_take]; show min i 8 ≤ 8; omega
    unfold Word at h1 h2
    refine run ?_
    rw [h3, ← h4]
    exact ⟨[0, 3], [], Gc.of, trivial⟩
  · refine run ?_
    rw [show List.take 8 (stL (addS s v)) = stL (addS s v) from rfl]
    exact r_end [] [1]
instance (k k2 : Nat) (s : St) (b : List Int) : Con Tryz.prog F.spec_l2Block [.sl false k (stL s).length 1 (rowT i64C (stL s)), .sl false k2 b.length 1 (rowT u8C b)] ((b.length = 64 ∧ Bytes b) ∧ StW s) (.sl false 0 (stL (blockS s b)).length 1 (rowT i64C (stL (blockS s b)))) [] := ⟨fun h => spec_l2Block k k2 s b h⟩

end Go.TL
