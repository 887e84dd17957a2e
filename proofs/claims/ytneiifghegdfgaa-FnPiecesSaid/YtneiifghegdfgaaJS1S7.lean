/- Texts joined. No conditions but those that are written. -/
import Derived.Test.YtneiifghegdfgaaTClo
import Derived.Test.YtneiifghegdfgaaNm
import Derived.Test.YtneiifghegdfgaaTGet
import Derived.Test.YtneiifghegdfgaaTSlc
import Derived.Test.YtneiifghegdfgaaTLda
import Derived.Test.YtneiifghegdfgaaTDr2
/- Words of 32 bits, both sides. No conditions but those that are written. -/
namespace Go.TL
set_option linter.unusedSimpArgs false
open Go.Proofs Go.RowKit
attribute [local irreducible] wpOpsT wpT EndT Ex.seq Ex.block W

theorem nat_of {x : Int} (h : 0 ≤ x) : ∃ n : Nat, x = n := ⟨x.toNat, (Int.toNat_of_nonneg h).symm⟩
theorem xor64_nat (x y : Nat) (hx : x < 2 ^ 63) (hy : y < 2 ^ 63) : xor64 x y = ((x ^^^ y : Nat) : Int) := by
  unfold xor64
  rw [IntWalk.i64_left]
  have h1 : (BitVec.ofInt 64 (x : Int)).toNat = x := by simp; omega
  have h2 : (BitVec.ofInt 64 (y : Int)).toNat = y := by simp; omega
  rw [BitVec.toNat_xor, h1, h2]
  have := Nat.xor_lt_two_pow hx hy
  rw [wrap64_in]; omega
theorem xor_b {a b : Int} (ha : 0 ≤ a ∧ a < 4294967296) (hb : 0 ≤ b ∧ b < 4294967296) : 0 ≤ xor64 a b ∧ xor64 a b < 4294967296 := by
  obtain ⟨x, rfl⟩ := nat_of ha.1
  obtain ⟨y, rfl⟩ := nat_of hb.1
  rw [xor64_nat x y (by omega) (by omega)]
  have := Nat.xor_lt_two_pow (n := 32) (show x < 2 ^ 32 by omega) (show y < 2 ^ 32 by omega)
  omega
theorem and_b {a b : Int} (ha : 0 ≤ a ∧ a < 4294967296) (hb : 0 ≤ b ∧ b < 4294967296) : 0 ≤ and64 a b ∧ and64 a b < 4294967296 := by
  obtain ⟨x, rfl⟩ := nat_of ha.1
  obtain ⟨y, rfl⟩ := nat_of hb.1
  rw [and64_nat x y (by omega) (by omega)]
  have := Nat.and_lt_two_pow (n := 32) x (show y < 2 ^ 32 by omega)
  omega
theorem or_b {k : Nat} (hk : k ≤ 63) {a b : Int} (ha : 0 ≤ a ∧ a < 2 ^ k) (hb : 0 ≤ b ∧ b < 2 ^ k) : 0 ≤ or64 a b ∧ or64 a b < 2 ^ k := by
  obtain ⟨x, rfl⟩ := nat_of ha.1
  obtain ⟨y, rfl⟩ := nat_of hb.1
  have e : ((2 : Nat) ^ k : Int) = ((2 ^ k : Nat) : Int) := by norm_cast
  have h1 : x < 2 ^ k := by have := ha.2; norm_cast at this
  have h2 : y < 2 ^ k := by have := hb.2; norm_cast at this
  have hm : 2 ^ k ≤ 2 ^ 63 := Nat.pow_le_pow_right (by decide) hk
  rw [or64_nat x y (by omega) (by omega)]
  have := Nat.or_lt_two_pow h1 h2
  exact ⟨by omega, by norm_cast⟩
@[go_sem] theorem min64 {n : Nat} (h : n ≤ 64) : min n 64 = n := Nat.min_eq_left h
@[go_sem] theorem and64_all {x : Int} (h : 0 ≤ x ∧ x < 9223372036854775808) : and64 x 4294967295 = x % 4294967296 := and64_mask 32 (by decide) x h.1 (by omega) 4294967295 rfl

/-- 32 bits turned right. -/
def turnI (x n : Int) : Int := or64 (x / 2 ^ n.toNat) (x * 2 ^ (32 - n).toNat) % 4294967296
theorem turn_b (x n : Int) : 0 ≤ turnI x n ∧ turnI x n < 4294967296 := by unfold turnI; omega

theorem turn_p {x n : Int} (h : (0 ≤ x ∧ x < 4294967296) ∧ 2 ≤ n ∧ n ≤ 31) : (0 ≤ x * 2 ^ (32 - n).toNat ∧ x * 2 ^ (32 - n).toNat < 9223372036854775808) ∧ 0 ≤ or64 (x / 2 ^ n.toNat) (x * 2 ^ (32 - n).toNat) ∧ or64 (x / 2 ^ n.toNat) (x * 2 ^ (32 - n).toNat) < 9223372036854775808 := by
  have h1 : (2 : Int) ^ (32 - n).toNat ≤ 2 ^ 30 := by
    have := Nat.pow_le_pow_right (n := 2) (by decide) (show (32 - n).toNat ≤ 30 by omega)
    exact_mod_cast this
  have h2 : (0 : Int) < 2 ^ (32 - n).toNat := Int.pow_pos (by decide)
  have h3 : 0 ≤ x * 2 ^ (32 - n).toNat := Int.mul_nonneg h.1.1 (by omega)
  have h4 : x * 2 ^ (32 - n).toNat ≤ 4294967295 * 2 ^ 30 := Int.le_trans (Int.mul_le_mul_of_nonneg_right (show x ≤ 4294967295 by omega) (by omega)) (Int.mul_le_mul_of_nonneg_left h1 (by decide))
  have h5 : 0 ≤ x / 2 ^ n.toNat := Int.ediv_nonneg h.1.1 (Int.pow_nonneg (by decide))
  have h6 : x / 2 ^ n.toNat ≤ x := Int.ediv_le_self _ h.1.1
  exact ⟨⟨h3, by omega⟩, or_b (k := 63) (by decide) ⟨h5, by omega⟩ ⟨h3, by omega⟩⟩

set_option maxHeartbeats 4000000 in
theorem spec_l2Low (x : Int) (hpre : 0 ≤ x ∧ x < 9223372036854775808) : CallsT Try.prog [] F.spec_l2Low [.v (.int .i64 x)] (.v (.int .i64 (x % 4294967296))) [] := by
  refine fnT C.spec_l2Low ?_
  refine run ?_
  exact r_end [] []
instance (x : Int) : Con Try.prog F.spec_l2Low [.v (.int .i64 x)] (0 ≤ x ∧ x < 9223372036854775808) (.v (.int .i64 (x % 4294967296))) [] := ⟨fun h => spec_l2Low x h⟩

set_option maxHeartbeats 4000000 in
theorem spec_l2Turn (x n : Int) (hpre : (0 ≤ x ∧ x < 4294967296) ∧ 2 ≤ n ∧ n ≤ 31) : CallsT Try.prog [] F.spec_l2Turn [.v (.int .i64 x), .v (.int .i64 n)] (.v (.int .i64 (turnI x n))) [] := by
  refine fnT C.spec_l2Turn ?_
  have hp := turn_p hpre
  refine run ?_
  exact r_end [] []
instance (x n : Int) : Con Try.prog F.spec_l2Turn [.v (.int .i64 x), .v (.int .i64 n)] ((0 ≤ x ∧ x < 4294967296) ∧ 2 ≤ n ∧ n ≤ 31) (.v (.int .i64 (turnI x n))) [] := ⟨fun h => spec_l2Turn x n h⟩

end Go.TL

/- Words of 32 bits in rows: keys, first words, loads at a place. No conditions but those that are written. -/
namespace Go.TL
set_option linter.unusedSimpArgs false
open Go.Proofs Go.RowKit
attribute [local irreducible] wpOpsT wpT EndT Ex.seq Ex.block W

def keysL : List Int := [1116352408, 1899447441, 3049323471, 3921009573, 961987163, 1508970993, 2453635748, 2870763221,
    3624381080, 310598401, 607225278, 1426881987, 1925078388, 2162078206, 2614888103, 3248222580,
    3835390401, 4022224774, 264347078, 604807628, 770255983, 1249150122, 1555081692, 1996064986,
    2554220882, 2821834349, 2952996808, 3210313671, 3336571891, 3584528711, 113926993, 338241895,
    666307205, 773529912, 1294757372, 1396182291, 1695183700, 1986661051, 2177026350, 2456956037,
    2730485921, 2820302411, 3259730800, 3345764771, 3516065817, 3600352804, 4094571909, 275423344,
    430227734, 506948616, 659060556, 883997877, 958139571, 1322822218, 1537002063, 1747873779,
    1955562222, 2024104815, 2227730452, 2361852424, 2428436474, 2756734187, 3204031479, 3329325298]
def firstL : List Int := [1779033703, 3144134277, 1013904242, 2773480762, 1359893119, 2600822924, 528734635, 1541459225]

theorem load_first (r : Nat) (p : List Nat) : loadN (loadCell r p) (rowT i64C firstL) 0 8 = some (rowT i64C firstL) := rfl
theorem load_keys (r : Nat) (p : List Nat) : loadN (loadCell r p) (rowT i64C keysL) 0 64 = some (rowT i64C keysL) := by kernel_rfl
attribute [go_sem] load_first load_keys

set_option maxHeartbeats 4000000 in
theorem spec_l2Keys  : CallsT Try.prog [] F.spec_l2Keys [] (.sl false 0 keysL.length 1 (rowT i64C keysL)) [] := by
  refine fnT C.spec_l2Keys ?_
  refine r_seq ?_
  refine r_region ?_
  refine r_do ?_
  refine r_ops ?_
  refine x_seq_n ?_
  refine r_seq ?_
  refine r_region ?_
  refine r_lit (enc := i64C) (k := 0) keysL (S' := [] ++ [⟨1, true, rowT i64C keysL⟩]) ?_ (hs := by kernel_rfl)
  refine run ?_
  exact r_end [] [0]
instance  : Con Try.prog F.spec_l2Keys [] True (.sl false 0 keysL.length 1 (rowT i64C keysL)) [] := ⟨fun _ => spec_l2Keys ⟩

end Go.TL

/- SHA-256: what a block's words are, what a round does. Plain. No conditions but those that are written. -/
namespace Go.TL
set_option linter.unusedSimpArgs false
open Go.Proofs Go.RowKit
attribute [local irreducible] wpOpsT wpT EndT Ex.seq Ex.block W

theorem pow_cast (k : Nat) : ((2 ^ k : Nat) : Int) = (2 : Int) ^ k := Int.natCast_pow 2 k
theorem or_add (k : Nat) {x y : Int} (hk : k ≤ 62) (hx : 0 ≤ x) (hs : x * 2 ^ k < 4611686018427387904) (hy : 0 ≤ y ∧ y < 2 ^ k) : or64 (x * 2 ^ k) y = x * 2 ^ k + y := by
  obtain ⟨a, rfl⟩ := nat_of hx
  obtain ⟨b, rfl⟩ := nat_of hy.1
  have h2 : b < 2 ^ k := Int.ofNat_lt.1 (by rw [pow_cast]; exact hy.2)
  have hm : 2 ^ k ≤ 2 ^ 62 := Nat.pow_le_pow_right (by decide) hk
  rw [← pow_cast, ← Int.natCast_mul] at hs ⊢
  have := Nat.two_pow_add_eq_or_of_lt h2 a
  rw [Nat.mul_comm] at this
  generalize ha : a * 2 ^ k = A at *
  generalize 2 ^ k = K at *
  rw [or64_nat _ _ (by omega) (by omega), ← this, Int.natCast_add]

/-- Bytes. -/
def Bytes (b : List Int) : Prop := ∀ x ∈ b, 0 ≤ x ∧ x < 256
theorem Bytes.nth {b : List Int} (h : Bytes b) (i : Int) : 0 ≤ TL.nth b i ∧ TL.nth b i < 256 := by
  unfold TL.nth
  rw [List.getD_eq_getElem?_getD]
  cases hh : b[i.toNat]? with
  | none => exact ⟨Int.le_refl _, by decide⟩
  | some x => exact h x (List.mem_of_getElem? hh)

def wordL (b : List Int) (t : Int) : Int := nth b (4 * t) * 16777216 + nth b (4 * t + 1) * 65536 + nth b (4 * t + 2) * 256 + nth b (4 * t + 3)
theorem word_or {b0 b1 b2 b3 : Int} (h0 : 0 ≤ b0 ∧ b0 < 256) (h1 : 0 ≤ b1 ∧ b1 < 256) (h2 : 0 ≤ b2 ∧ b2 < 256) (h3 : 0 ≤ b3 ∧ b3 < 256) : or64 (or64 (or64 (b0 * 16777216) (b1 * 65536)) (b2 * 256)) b3 = b0 * 16777216 + b1 * 65536 + b2 * 256 + b3 := by
  have e1 := or_add 24 (x := b0) (y := b1 * 65536) (by decide) h0.1 (by omega) (by omega)
  have e2 := or_add 16 (x := b0 * 256 + b1) (y := b2 * 256) (by decide) (by omega) (by omega) (by omega)
  have e3 := or_add 8 (x := (b0 * 256 + b1) * 256 + b2) (y := b3) (by decide) (by omega) (by omega) (by omega)
  simp only [Int.reducePow] at e1 e2 e3
  rw [e1, show b0 * 16777216 + b1 * 65536 = (b0 * 256 + b1) * 65536 by omega, e2, show (b0 * 256 + b1) * 65536 + b2 * 256 = ((b0 * 256 + b1) * 256 + b2) * 256 by omega, e3]

def s0I (x : Int) : Int := xor64 (xor64 (turnI x 7) (turnI x 18)) (x / 8)
def s1I (x : Int) : Int := xor64 (xor64 (turnI x 17) (turnI x 19)) (x / 1024)
def Word (x : Int) : Prop := 0 ≤ x ∧ x < 4294967296
theorem s0_b {x : Int} (h : Word x) : Word (s0I x) := xor_b (xor_b (turn_b _ _) (turn_b _ _)) ⟨by have := h.1; omega, by have := h.2; have := h.1; omega⟩
theorem s1_b {x : Int} (h : Word x) : Word (s1I x) := xor_b (xor_b (turn_b _ _) (turn_b _ _)) ⟨by have := h.1; omega, by have := h.2; have := h.1; omega⟩
def nextW (l : List Int) (t : Int) : Int := (s1I (nth l (t - 2)) + nth l (t - 7) + s0I (nth l (t - 15)) + nth l (t - 16)) % 4294967296
def expW (b : List Int) : Nat → List Int
  | 0 => []
  | t + 1 => expW b t ++ [if t < 16 then wordL b t else nextW (expW b t) t]
theorem expW_len (b : List Int) : ∀ t, (expW b t).length = t
  | 0 => rfl
  | t + 1 => by rw [expW, List.length_append, expW_len b t]; rfl
theorem expW_word {b : List Int} (hb : Bytes b) : ∀ (t : Nat), ∀ x ∈ expW b t, Word x
  | 0 => fun x h => by simp [expW] at h
  | t + 1 => fun x h => by
    rw [expW, List.mem_append, List.mem_singleton] at h
    rcases h with h | rfl
    · exact expW_word hb t x h
    · split
      · have h0 := hb.nth (4 * t)
        have h1 := hb.nth (4 * t + 1)
        have h2 := hb.nth (4 * t + 2)
        have h3 := hb.nth (4 * t + 3)
        unfold Word wordL
        omega
      · unfold Word nextW
        omega
theorem nth_word {l : List Int} (h : ∀ x ∈ l, Word x) (i : Int) : Word (nth l i) := by
  unfold nth
  rw [List.getD_eq_getElem?_getD]
  cases hh : l[i.toNat]? with
  | none => exact ⟨Int.le_refl _, by decide⟩
  | some x => exact h x (List.mem_of_getElem? hh)

/-! ### Rounds -/
structure St where
  a : Int
  b : Int
  c : Int
  d : Int
  e : Int
  f : Int
  g : Int
  h : Int
def stL (s : St) : List Int := [s.a, s.b, s.c, s.d, s.e, s.f, s.g, s.h]
def StW (s : St) : Prop := Word s.a ∧ Word s.b ∧ Word s.c ∧ Word s.d ∧ Word s.e ∧ Word s.f ∧ Word s.g ∧ Word s.h
def chI (e f g : Int) : Int := xor64 (and64 e f) (and64 (xor64 4294967295 e) g)
def majI (a b c : Int) : Int := xor64 (xor64 (and64 a b) (and64 a c)) (and64 b c)
def S1I (e : Int) : Int := xor64 (xor64 (turnI e 6) (turnI e 11)) (turnI e 25)
def S0I (a : Int) : Int := xor64 (xor64 (turnI a 2) (turnI a 13)) (turnI a 22)
theorem ch_b {e f g : Int} (he : Word e) (hf : Word f) (hg : Word g) : Word (chI e f g) := xor_b (and_b he hf) (and_b (xor_b ⟨by decide, by decide⟩ he) hg)
theorem maj_b {a b c : Int} (ha : Word a) (hb : Word b) (hc : Word c) : Word (majI a b c) := xor_b (xor_b (and_b ha hb) (and_b ha hc)) (and_b hb hc)
theorem S1_b (e : Int) : Word (S1I e) := xor_b (xor_b (turn_b _ _) (turn_b _ _)) (turn_b _ _)
theorem S0_b (a : Int) : Word (S0I a) := xor_b (xor_b (turn_b _ _) (turn_b _ _)) (turn_b _ _)
def t1I (s : St) (k w : Int) : Int := s.h + S1I s.e + chI s.e s.f s.g + k + w
def t2I (s : St) : Int := S0I s.a + majI s.a s.b s.c
def stepS (s : St) (k w : Int) : St := ⟨(t1I s k w + t2I s) % 4294967296, s.a, s.b, s.c, (s.d + t1I s k w) % 4294967296, s.e, s.f, s.g⟩
theorem mod_w (x : Int) : Word (x % 4294967296) := by unfold Word; omega
theorem step_w {s : St} (h : StW s) (k w : Int) : StW (stepS s k w) := ⟨mod_w _, h.1, h.2.1, h.2.2.1, mod_w _, h.2.2.2.2.1, h.2.2.2.2.2.1, h.2.2.2.2.2.2.1⟩
def roundS (b : List Int) (s : St) : Nat → St
  | 0 => s
  | t + 1 => stepS (roundS b s t) (nth keysL t) (nth (expW b 64) t)
theorem round_w (b : List Int) {s : St} (h : StW s) : ∀ t, StW (roundS b s t)
  | 0 => h
  | t + 1 => step_w (round_w b h t) _ _
def addS (s v : St) : St := ⟨(s.a + v.a) % 4294967296, (s.b + v.b) % 4294967296, (s.c + v.c) % 4294967296, (s.d + v.d) % 4294967296, (s.e + v.e) % 4294967296, (s.f + v.f) % 4294967296, (s.g + v.g) % 4294967296, (s.h + v.h) % 4294967296⟩
/-- What a block makes of the eight words. -/
def blockS (s : St) (b : List Int) : St := addS s (roundS b s 64)
theorem block_w (s : St) (b : List Int) : StW (blockS s b) := ⟨mod_w _, mod_w _, mod_w _, mod_w _, mod_w _, mod_w _, mod_w _, mod_w _⟩

end Go.TL

/- SHA-256: a block, the reference. No conditions but those that are written. -/
namespace Go.TL
set_option linter.unusedSimpArgs false
open Go.Proofs Go.RowKit
attribute [local irreducible] wpOpsT wpT EndT Ex.seq Ex.block W

@[go_sem] theorem st_0 (s : St) : nth (stL s) 0 = s.a := rfl
@[go_sem] theorem st_1 (s : St) : nth (stL s) 1 = s.b := rfl
@[go_sem] theorem st_2 (s : St) : nth (stL s) 2 = s.c := rfl
@[go_sem] theorem st_3 (s : St) : nth (stL s) 3 = s.d := rfl
@[go_sem] theorem st_4 (s : St) : nth (stL s) 4 = s.e := rfl
@[go_sem] theorem st_5 (s : St) : nth (stL s) 5 = s.f := rfl
@[go_sem] theorem st_6 (s : St) : nth (stL s) 6 = s.g := rfl
@[go_sem] theorem st_7 (s : St) : nth (stL s) 7 = s.h := rfl
@[go_sem] theorem st_c0 (s : St) : (rowT i64C (stL s))[0]? = some (.v (.int .i64 s.a)) := rfl
@[go_sem] theorem st_c1 (s : St) : (rowT i64C (stL s))[1]? = some (.v (.int .i64 s.b)) := rfl
@[go_sem] theorem st_c2 (s : St) : (rowT i64C (stL s))[2]? = some (.v (.int .i64 s.c)) := rfl
@[go_sem] theorem st_c3 (s : St) : (rowT i64C (stL s))[3]? = some (.v (.int .i64 s.d)) := rfl
@[go_sem] theorem st_c4 (s : St) : (rowT i64C (stL s))[4]? = some (.v (.int .i64 s.e)) := rfl
@[go_sem] theorem st_c5 (s : St) : (rowT i64C (stL s))[5]? = some (.v (.int .i64 s.f)) := rfl
@[go_sem] theorem st_c6 (s : St) : (rowT i64C (stL s))[6]? = some (.v (.int .i64 s.g)) := rfl
@[go_sem] theorem st_c7 (s : St) : (rowT i64C (stL s))[7]? = some (.v (.int .i64 s.h)) := rfl
@[go_sem] theorem expW_0 (b : List Int) : expW b 0 = [] := rfl
theorem expW_1 {b : List Int} {t : Nat} (h : t < 16) : expW b t ++ [wordL b t] = expW b (t + 1) := by rw [expW, if_pos h]
theorem expW_2 {b : List Int} {t : Nat} (h : ¬ t < 16) : expW b t ++ [nextW (expW b t) t] = expW b (t + 1) := by rw [expW, if_neg h]

theorem st_w {s : St} (h : StW s) : ∀ x ∈ stL s, Word x := by
  obtain ⟨h1, h2, h3, h4, h5, h6, h7, h8⟩ := h
  intro x hx
  simp only [stL, List.mem_cons, List.not_mem_nil, or_false] at hx
  rcases hx with rfl | rfl | rfl | rfl | rfl | rfl | rfl | rfl <;> assumption
theorem add_nth (s v : St) : ∀ i : Nat, i < 8 → (nth (stL s) i + nth (stL v) i) % 4294967296 = nth (stL (addS s v)) i
  | 0, _ => rfl
  | 1, _ => rfl
  | 2, _ => rfl
  | 3, _ => rfl
  | 4, _ => rfl
  | 5, _ => rfl
  | 6, _ => rfl
  | 7, _ => rfl
theorem step_cells (v : St) (k w : Int) : [.v (.int .i64 ((t1I v k w % 4294967296 + t2I v % 4294967296) % 4294967296)), .v (.int .i64 v.a), .v (.int .i64 v.b), .v (.int .i64 v.c), .v (.int .i64 ((v.d + t1I v k w % 4294967296) % 4294967296)), .v (.int .i64 v.e), .v (.int .i64 v.f), .v (.int .i64 v.g)] = rowT i64C (stL (stepS v k w)) := by
  rw [show (t1I v k w % 4294967296 + t2I v % 4294967296) % 4294967296 = (t1I v k w + t2I v) % 4294967296 by omega, show (v.d + t1I v k w % 4294967296) % 4294967296 = (v.d + t1I v k w) % 4294967296 by omega]
  rfl
theorem keys_w : ∀ x ∈ keysL, Word x := by unfold Word; decide

set_option maxHeartbeats 4000000 in
theorem spec_l2Block (k k2 : Nat) (s : St) (b : List Int) (hpre : (b.length = 64 ∧ Bytes b) ∧ StW s) : CallsT Try.prog [] F.spec_l2Block [.sl false k (stL s).length 1 (rowT i64C (stL s)), .sl false k2 b.length 1 (rowT u8C b)] (.sl false 0 (stL (blockS s b)).length 1 (rowT i64C (stL (blockS s b)))) [] := by
  refine fnT C.spec_l2Block ?_
  obtain ⟨⟨hb1, hb2⟩, hs⟩ := hpre
  have hk8 : (stL s).length = 8 := rfl
  refine run ?_
  refine r_for 16 (fun i => [(0, .sl false k (stL s).length 1 (rowT i64C (stL s))), (1, .sl false k2 b.length 1 (rowT u8C b)), (5, .ref 0 [] 0 (expW b i).length), (6, .v (.int .i64 i))]) (fun i => [⟨1, true, rowT i64C (expW b i)⟩]) (fun _ => True) [0] [] trivial Gc.of (fun i hi _ => ?_) (fun _ => ?_)
  · have h0 := hb2.nth (4 * i)
    have h1 := hb2.nth (4 * i + 1)
    have h2 := hb2.nth (4 * i + 2)
    have h3 := hb2.nth (4 * i + 3)
    have hl := expW_len b i
    refine run ?_
    rw [word_or h0 h1 h2 h3, show nth b (4 * (i : Int)) * 16777216 + nth b (4 * (i : Int) + 1) * 65536 + nth b (4 * (i : Int) + 2) * 256 + nth b (4 * (i : Int) + 3) = wordL b i from rfl, expW_1 hi]
    exact ⟨[2], [], Gc.of, trivial⟩
  refine run ?_
  refine r_for 48 (fun i => [(0, .sl false k (stL s).length 1 (rowT i64C (stL s))), (5, .ref 0 [] 0 (expW b (16 + i)).length), (7, .v (.int .i64 ((16 + i : Nat))))]) (fun i => [⟨1, true, rowT i64C (expW b (16 + i))⟩]) (fun _ => True) [0] [] trivial Gc.of (fun i hi _ => ?_) (fun _ => ?_)
  · have hw := nth_word (expW_word hb2 (16 + i))
    have h2 := hw (16 + i - 2)
    have h7 := hw (16 + i - 7)
    have h15 := hw (16 + i - 15)
    have h16 := hw (16 + i - 16)
    have hs0 := s0_b h15
    have hs1 := s1_b h2
    have hx0 := xor_b (turn_b (nth (expW b (16 + i)) (16 + i - 15)) 7) (turn_b (nth (expW b (16 + i)) (16 + i - 15)) 18)
    have hx1 := xor_b (turn_b (nth (expW b (16 + i)) (16 + i - 2)) 17) (turn_b (nth (expW b (16 + i)) (16 + i - 2)) 19)
    unfold Word at h2 h7 h15 h16
    simp only [Word, s0I, s1I] at hs0 hs1
    have hl := expW_len b (16 + i)
    have e := expW_2 (b := b) (t := 16 + i) (by omega)
    simp only [nextW, s0I, s1I, Int.natCast_add, Int.cast_ofNat_Int] at e
    refine run ?_
    rw [e, show (16 + (i : Int) + 1) = 16 + ((i : Int) + 1) by omega]
    exact ⟨[2], [], Gc.of, trivial⟩
  refine run ?_
  refine r_app (enc := i64C) [] (stL s) (by rw [hk8]; decide) ?_
  rw [List.nil_append]
  refine run ?_
  refine r_for 64 (fun i => [(0, .sl false k (stL s).length 1 (rowT i64C (stL s))), (5, .ref 0 [] 0 (expW b 64).length), (10, .sl false 0 keysL.length 1 (rowT i64C keysL)), (11, .ref 1 [] 0 (stL (roundS b s i)).length), (12, .v (.int .i64 i))]) (fun i => [⟨1, true, rowT i64C (expW b 64)⟩, ⟨1, true, rowT i64C (stL (roundS b s i))⟩]) (fun _ => True) [0, 2] [] trivial Gc.of (fun i hi _ => ?_) (fun _ => ?_)
  · have hv := round_w b hs i
    rw [show roundS b s (i + 1) = stepS (roundS b s i) (nth keysL i) (nth (expW b 64) i) from rfl]
    generalize roundS b s i = v at hv ⊢
    have hk8v : (stL v).length = 8 := rfl
    have hkl : keysL.length = 64 := rfl
    have hwl := expW_len b 64
    have hw := nth_word (expW_word hb2 64) i
    have hk := nth_word keys_w i
    obtain ⟨ha, hb, hc, hd, he, hf, hg, hh⟩ := hv
    have h1 := S1_b v.e
    have h0 := S0_b v.a
    have hch := ch_b he hf hg
    have hmj := maj_b ha hb hc
    simp only [Word, S1I, S0I, chI, majI] at ha hb hc hd he hf hg hh hw hk h1 h0 hch hmj
    have ec := step_cells v (nth keysL i) (nth (expW b 64) i)
    simp only [t1I, t2I, S1I, S0I, chI, majI] at ec
    have hk8s : (stL (stepS v (nth keysL i) (nth (expW b 64) i))).length = 8 := rfl
    refine run ?_
    rw [ec]
    exact ⟨[0, 2], [], Gc.of, trivial⟩
  have hv := round_w b hs 64
  rw [show blockS s b = addS s (roundS b s 64) from rfl]
  generalize roundS b s 64 = v at hv ⊢
  have hk8v : (stL v).length = 8 := rfl
  refine run ?_
  refine r_for 8 (fun i => [(0, .sl false k (stL s).length 1 (rowT i64C (stL s))), (11, .ref 0 [] 0 (stL v).length), (19, .ref 1 [] 0 ((stL (addS s v)).take i).length), (20, .v (.int .i64 i))]) (fun i => [⟨1, true, rowT i64C (stL v)⟩, ⟨1, true, rowT i64C ((stL (addS s v)).take i)⟩]) (fun _ => True) [1, 2] [] trivial Gc.of (fun i hi _ => ?_) (fun _ => ?_)
  · have h1 := nth_word (st_w hs) i
    have h2 := nth_word (st_w hv) i
    have h3 := add_nth s v i hi
    have h4 := take_nth (l := stL (addS s v)) (i := i) hi
    have h5 : ((stL (addS s v)).take i).length ≤ 8 := by rw [List.length_take]; show min i 8 ≤ 8; omega
    unfold Word at h1 h2
    refine run ?_
    rw [h3, ← h4]
    exact ⟨[0, 3], [], Gc.of, trivial⟩
  · refine run ?_
    rw [show List.take 8 (stL (addS s v)) = stL (addS s v) from rfl]
    exact r_end [] [1]
instance (k k2 : Nat) (s : St) (b : List Int) : Con Try.prog F.spec_l2Block [.sl false k (stL s).length 1 (rowT i64C (stL s)), .sl false k2 b.length 1 (rowT u8C b)] ((b.length = 64 ∧ Bytes b) ∧ StW s) (.sl false 0 (stL (blockS s b)).length 1 (rowT i64C (stL (blockS s b)))) [] := ⟨fun h => spec_l2Block k k2 s b h⟩

end Go.TL

/- SHA-256: the words of a block, the implementation. No conditions but those that are written. -/
namespace Go.TL
set_option linter.unusedSimpArgs false
open Go.Proofs Go.RowKit
attribute [local irreducible] wpOpsT wpT EndT Ex.seq Ex.block W

/-- The array while it grows. -/
def arrW (b : List Int) (t : Nat) : List Int := expW b t ++ List.replicate (64 - t) 0
theorem arr_len (b : List Int) {t : Nat} (h : t ≤ 64) : (arrW b t).length = 64 := by unfold arrW; rw [List.length_append, expW_len, List.length_replicate]; omega
theorem arr_set (b : List Int) {t : Nat} (h : t < 64) (x : Int) : (arrW b t).set t x = expW b t ++ [x] ++ List.replicate (63 - t) 0 := by
  unfold arrW
  rw [List.set_append_right _ _ (by rw [expW_len]; exact Nat.le_refl _), expW_len, Nat.sub_self, show 64 - t = (63 - t) + 1 by omega, List.replicate_succ, List.set_cons_zero, List.append_assoc]; rfl
theorem arr_0 (b : List Int) {t : Nat} (h : t < 64) : (arrW b t).set t 0 = arrW b t := by
  rw [arr_set b h]
  unfold arrW
  rw [List.append_assoc, show 64 - t = (63 - t) + 1 by omega, List.replicate_succ]; rfl
theorem arr_step (b : List Int) {t : Nat} (h : t < 16) : (arrW b t).set t (wordL b t) = arrW b (t + 1) := by
  rw [arr_set b (by omega), expW_1 h]; unfold arrW; rw [show 63 - t = 64 - (t + 1) by omega]
theorem arr_next (b : List Int) {t : Nat} (h : ¬ t < 16) (h2 : t < 64) : (arrW b t).set t (nextW (expW b t) t) = arrW b (t + 1) := by
  rw [arr_set b h2, expW_2 h]; unfold arrW; rw [show 63 - t = 64 - (t + 1) by omega]
theorem arr_nth (b : List Int) {t : Nat} {x : Int} (h : x.toNat < t) : nth (arrW b t) x = nth (expW b t) x := by
  unfold nth arrW
  rw [List.getD_eq_getElem?_getD, List.getD_eq_getElem?_getD, List.getElem?_append_left (by rw [expW_len]; exact h)]
theorem nth_set {l : List Int} {i : Nat} (h : i < l.length) (x : Int) : nth (l.set i x) i = x := by
  unfold nth
  rw [Int.toNat_natCast, List.getD_eq_getElem?_getD, List.getElem?_set_self h]; rfl
def partW (b : List Int) (t : Int) : Nat → Int
  | 0 => 0
  | j + 1 => partW b t j * 256 + nth b (4 * t + j)
theorem part_4 (b : List Int) (t : Int) : partW b t 4 = wordL b t := by
  simp only [partW, wordL, Int.cast_ofNat_Int, Int.add_zero]
  omega

def z64 : List Int := List.replicate 64 0

end Go.TL

/- SHA-256: a block, the implementation. No conditions but those that are written. -/
namespace Go.TL
set_option linter.unusedSimpArgs false
open Go.Proofs Go.RowKit
attribute [local irreducible] wpOpsT wpT EndT Ex.seq Ex.block W

/-- One of a row of ints that is held as a value. -/
@[go_sem] theorem index_ints {P : Program} (t : TypeId) (l : List Int) (q : IntKind) {i : Int} (h : 0 ≤ i ∧ i < (l.length : Int)) : indexT P t (.agg (rowT i64C l)) (.v (.int q i)) = (match arrT P t with
    | some (n, e) => match szT P e, aggT P e with
      | some sz, some agg => if sz = 1 ∧ agg = false then chk (i < n) (some (.v (.int .i64 (nth l i)))) else (if 0 ≤ i ∧ i < n then (if agg then (if i.toNat * sz + sz ≤ (rowT i64C l).length then some (.agg (((rowT i64C l).drop (i.toNat * sz)).take sz)) else none) else (rowT i64C l)[i.toNat * sz]?) else none)
      | _, _ => none
    | none => none) := by
  unfold indexT
  dsimp only
  cases arrT P t with
  | none => rfl
  | some x =>
    obtain ⟨n, e⟩ := x
    dsimp only
    cases szT P e with
    | none => rfl
    | some sz =>
      cases aggT P e with
      | none => rfl
      | some agg =>
        dsimp only
        by_cases h1 : sz = 1 ∧ agg = false
        · rw [if_pos h1]
          obtain ⟨rfl, rfl⟩ := h1
          unfold chk
          by_cases h2 : i < n
          · rw [if_pos ⟨h.1, h2⟩, if_pos h2, if_neg Bool.false_ne_true]
            have := row_cell (enc := i64C) (sz := 1) (l := l) (x := i) 0 (by omega) (by decide)
            rw [Nat.add_zero] at this
            rw [this]; rfl
          · rw [if_neg (fun h3 => h2 h3.2), if_neg h2]
        · rw [if_neg h1]

def mixS (s v : St) (i : Nat) : St := ⟨if 0 < i then (s.a + v.a) % 4294967296 else s.a, if 1 < i then (s.b + v.b) % 4294967296 else s.b, if 2 < i then (s.c + v.c) % 4294967296 else s.c, if 3 < i then (s.d + v.d) % 4294967296 else s.d, if 4 < i then (s.e + v.e) % 4294967296 else s.e, if 5 < i then (s.f + v.f) % 4294967296 else s.f, if 6 < i then (s.g + v.g) % 4294967296 else s.g, if 7 < i then (s.h + v.h) % 4294967296 else s.h⟩
theorem mix_0 (s v : St) : mixS s v 0 = s := rfl
theorem mix_8 (s v : St) : mixS s v 8 = addS s v := rfl
theorem mix_at (s v : St) : ∀ i : Nat, i < 8 → nth (stL (mixS s v i)) i = nth (stL s) i
  | 0, _ => rfl
  | 1, _ => rfl
  | 2, _ => rfl
  | 3, _ => rfl
  | 4, _ => rfl
  | 5, _ => rfl
  | 6, _ => rfl
  | 7, _ => rfl
theorem mix_set (s v : St) : ∀ i : Nat, i < 8 → (stL (mixS s v i)).set i (nth (stL (addS s v)) i) = stL (mixS s v (i + 1))
  | 0, _ => rfl
  | 1, _ => rfl
  | 2, _ => rfl
  | 3, _ => rfl
  | 4, _ => rfl
  | 5, _ => rfl
  | 6, _ => rfl
  | 7, _ => rfl

end Go.TL

/- SHA-256: the whole, both sides. No conditions but those that are written. -/
namespace Go.TL
set_option linter.unusedSimpArgs false
open Go.Proofs Go.RowKit
attribute [local irreducible] wpOpsT wpT EndT Ex.seq Ex.block W

def zN (n : Nat) : Nat := (119 - n % 64) % 64
/-- The bytes, a one, i zeros. -/
def zrow (l : List Int) : Nat → List Int
  | 0 => l ++ [128]
  | i + 1 => zrow l i ++ [0]
/-- And the first j bytes of how many bits there are. -/
def prow (l : List Int) : Nat → List Int
  | 0 => zrow l (zN l.length)
  | j + 1 => prow l j ++ [8 * (l.length : Int) / 2 ^ (8 * (7 - (j : Int))).toNat % 256]
def padL (l : List Int) : List Int := prow l 8
theorem zrow_len (l : List Int) : ∀ i, (zrow l i).length = l.length + 1 + i
  | 0 => by simp [zrow]
  | i + 1 => by rw [zrow, List.length_append, zrow_len l i]; rfl
theorem prow_len (l : List Int) : ∀ j, (prow l j).length = l.length + 1 + zN l.length + j
  | 0 => zrow_len l _
  | j + 1 => by rw [prow, List.length_append, prow_len l j]; rfl
theorem padL_64 (l : List Int) : (padL l).length = 64 * ((padL l).length / 64) := by
  have : (padL l).length = l.length + 1 + zN l.length + 8 := prow_len l 8
  unfold zN at this; omega
theorem Bytes.app {a b : List Int} (ha : Bytes a) (hb : Bytes b) : Bytes (a ++ b) := fun x hx => by
  rcases List.mem_append.1 hx with h | h
  · exact ha x h
  · exact hb x h
theorem Bytes.one {y : Int} (h : 0 ≤ y ∧ y < 256) : Bytes [y] := fun x hx => by rw [List.mem_singleton.1 hx]; exact h
theorem zrow_b {l : List Int} (h : Bytes l) : ∀ i, Bytes (zrow l i)
  | 0 => h.app (Bytes.one (by decide))
  | i + 1 => (zrow_b h i).app (Bytes.one (by decide))
theorem prow_b {l : List Int} (h : Bytes l) : ∀ j, Bytes (prow l j)
  | 0 => zrow_b h _
  | j + 1 => (prow_b h j).app (Bytes.one (by omega))
theorem padL_b {l : List Int} (h : Bytes l) : Bytes (padL l) := prow_b h 8
def firstS : St := ⟨1779033703, 3144134277, 1013904242, 2773480762, 1359893119, 2600822924, 528734635, 1541459225⟩
theorem first_l : stL firstS = firstL := rfl
theorem first_w : StW firstS := by unfold StW Word firstS; decide
/-- The state behind i blocks. -/
def shaS (p : List Int) : Nat → St
  | 0 => firstS
  | i + 1 => blockS (shaS p i) (cutL p (64 * (i : Int)) (64 * (i : Int) + 64))
theorem shaS_w (p : List Int) : ∀ i, StW (shaS p i)
  | 0 => first_w
  | _ + 1 => block_w _ _
def outL (s : St) : Nat → List Int
  | 0 => []
  | i + 1 => outL s i ++ [nth (stL s) (i : Nat) / 16777216 % 256, nth (stL s) (i : Nat) / 65536 % 256, nth (stL s) (i : Nat) / 256 % 256, nth (stL s) (i : Nat) % 256]
theorem outL_len (s : St) : ∀ i, (outL s i).length = 4 * i
  | 0 => rfl
  | i + 1 => by rw [outL, List.length_append, outL_len s i]; rfl
def shaL (l : List Int) : List Int := if (l.length : Int) > 4000 then [] else outL (shaS (padL l) ((padL l).length / 64)) 8
theorem cut_b {l : List Int} (h : Bytes l) (lo hi : Int) : Bytes (cutL l lo hi) := fun x hx => h x (List.mem_of_mem_drop (List.mem_of_mem_take hx))
attribute [local go_sem] Int.emod_emod
theorem zN_step {n i : Nat} (h : i < zN n) : ¬ ((n : Int) + 1 + i) % 64 = 56 := by unfold zN at h; omega
theorem zN_end (n : Nat) : ((n : Int) + 1 + zN n) % 64 = 56 := by unfold zN; omega
theorem sh_b (n : Nat) (j : Nat) (h : n ≤ 4000) : 0 ≤ 8 * (n : Int) / 2 ^ (8 * (7 - (j : Int))).toNat ∧ 8 * (n : Int) / 2 ^ (8 * (7 - (j : Int))).toNat ≤ 32000 := by
  have h1 : 0 ≤ 8 * (n : Int) / 2 ^ (8 * (7 - (j : Int))).toNat := Int.ediv_nonneg (by omega) (Int.pow_nonneg (by decide))
  have h2 : 8 * (n : Int) / 2 ^ (8 * (7 - (j : Int))).toNat ≤ 8 * n := Int.ediv_le_self _ (by omega)
  omega

set_option maxHeartbeats 4000000 in
theorem spec_Sha (k : Nat) (l : List Int) (hpre : Bytes l ∧ l.length ≤ 140737488351232) : CallsT Try.prog [] F.spec_Sha [.sl false k l.length 1 (rowT u8C l)] (.sl false 0 (shaL l).length 1 (rowT u8C (shaL l))) [] := by
  refine fnT C.spec_Sha ?_
  obtain ⟨hb, hl⟩ := hpre
  refine run ?_
  refine r_ifd (fun h => ?_) (fun h => ?_)
  · rw [show shaL l = [] from if_pos h]
    refine run ?_
    exact r_end [] [0]
  rw [show shaL l = outL (shaS (padL l) ((padL l).length / 64)) 8 from if_neg h]
  refine run ?_
  refine r_app (enc := u8C) [] l (by simp only [List.length_nil]; omega) ?_
  rw [List.nil_append]
  have hz : zN l.length < 64 := by unfold zN; omega
  refine run ?_
  refine r_for (zN l.length) (fun i => [(0, .sl false k l.length 1 (rowT u8C l)), (3, .ref 0 [] 0 0), (4, .ref 1 [] 0 (zrow l i).length)]) (fun i => [⟨1, true, []⟩, ⟨1, true, rowT u8C (zrow l i)⟩]) (fun _ => True) [0, 4] [] trivial Gc.of (fun i hi _ => ?_) (fun _ => ?_)
  · have hs := zN_step hi
    have hzl := zrow_len l i
    refine run ?_
    exact ⟨[0, 3], [], Gc.of, trivial⟩
  have hs := zN_end l.length
  have hzl := zrow_len l (zN l.length)
  refine run ?_
  refine r_for 8 (fun j => [(0, .sl false k l.length 1 (rowT u8C l)), (3, .ref 0 [] 0 0), (4, .ref 1 [] 0 (prow l j).length), (5, .v (.int .i64 (7 - (j : Int))))]) (fun j => [⟨1, true, []⟩, ⟨1, true, rowT u8C (prow l j)⟩]) (fun _ => True) [0, 1] [] trivial Gc.of (fun j hj _ => ?_) (fun _ => ?_)
  · have hpl := prow_len l j
    have hsh := sh_b l.length j (by omega)
    have e7 : 7 - (j : Int) - 1 = 7 - ((j + 1 : Nat) : Int) := by omega
    refine run ?_
    rw [e7]
    exact ⟨[0, 3], [], Gc.of, trivial⟩
  have hp8 : prow l 8 = padL l := rfl
  rw [hp8]
  have hpl : (padL l).length = l.length + 1 + zN l.length + 8 := prow_len l 8
  have hp64 := padL_64 l
  have hpb := padL_b hb
  refine run ?_
  refine r_for ((padL l).length / 64) (fun i => [(3, .ref 0 [] 0 0), (4, .sl false 0 (padL l).length 1 (rowT u8C (padL l))), (6, .sl false 0 (stL (shaS (padL l) i)).length 1 (rowT i64C (stL (shaS (padL l) i)))), (7, .v (.int .i64 (64 * (i : Int))))]) (fun i => [⟨1, true, []⟩]) (fun _ => True) [0] [1, 2] trivial Gc.of (fun i hi _ => ?_) (fun _ => ?_)
  · have hw := shaS_w (padL l) i
    have hc := cutL_len (padL l) (lo := 64 * (i : Int)) (hi := 64 * (i : Int) + 64) (by omega)
    have hcb := cut_b hpb (64 * (i : Int)) (64 * (i : Int) + 64)
    have e1 : shaS (padL l) (i + 1) = blockS (shaS (padL l) i) (cutL (padL l) (64 * (i : Int)) (64 * (i : Int) + 64)) := rfl
    generalize shaS (padL l) i = v at *
    rw [e1]
    refine run ?_
    rw [show 64 * (i : Int) + 64 = 64 * ((i + 1 : Nat) : Int) by omega]
    exact ⟨[0], [], Gc.of, trivial⟩
  have hw := shaS_w (padL l) ((padL l).length / 64)
  have hlast : ¬ 64 * (((padL l).length / 64 : Nat) : Int) < (padL l).length := by omega
  generalize shaS (padL l) ((padL l).length / 64) = v at *
  refine run ?_
  refine r_for 8 (fun i => [(3, .ref 0 [] 0 (outL v i).length), (6, .sl false 0 (stL v).length 1 (rowT i64C (stL v))), (8, .v (.int .i64 i))]) (fun i => [⟨1, true, rowT u8C (outL v i)⟩]) (fun _ => True) [0] [] trivial Gc.of (fun i hi _ => ?_) (fun _ => ?_)
  · have h1 := nth_word (st_w hw) i
    have hlv : (stL v).length = 8 := rfl
    have hol := outL_len v i
    unfold Word at h1
    have e24 : nth (stL v) (i : Nat) / 16777216 = nth (stL v) (i : Nat) / 16777216 % 256 := by omega
    refine run ?_
    refine r_app (enc := u8C) (outL v i) [nth (stL v) (i : Nat) / 16777216, nth (stL v) (i : Nat) / 65536 % 256, nth (stL v) (i : Nat) / 256 % 256, nth (stL v) (i : Nat) % 256] (by rw [hol]; show 4 * i + 4 ≤ _; omega) ?_ (hy := src_row (l := [nth (stL v) (i : Nat) / 16777216, nth (stL v) (i : Nat) / 65536 % 256, nth (stL v) (i : Nat) / 256 % 256, nth (stL v) (i : Nat) % 256]) rfl)
    refine run ?_
    rw [e24]
    exact ⟨[2], [], Gc.of, trivial⟩
  · refine run ?_
    exact r_end [] [0]
instance (k : Nat) (l : List Int) : Con Try.prog F.spec_Sha [.sl false k l.length 1 (rowT u8C l)] (Bytes l ∧ l.length ≤ 140737488351232) (.sl false 0 (shaL l).length 1 (rowT u8C (shaL l))) [] := ⟨fun h => spec_Sha k l h⟩

end Go.TL
