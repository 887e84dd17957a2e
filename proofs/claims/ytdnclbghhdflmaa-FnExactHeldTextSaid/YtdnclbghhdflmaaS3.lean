/- SHA-256: what a block's words are, what a round does. Plain. No conditions but those that are written. -/
import Derived.Test.YtdnclbghhdflmaaS2
namespace Go.TL
open Go.Proofs Go.RowKit
attribute [local irreducible] wpOpsT wpT EndT Ex.seq Ex.block W

theorem pow_cast (k : Nat) : ((2 ^ k : Nat) : Int) = (2 : Int) ^ k := Int.natCast_pow 2 k
theorem or_add (k : Nat) {x y : Int} (hk : k ≤ 62) (hx : 0 ≤ x) (hs : x * 2 ^ k < 4611686018427387904) (hy : 0 ≤ y ∧ y < 2 ^ k) : or64 (x * 2 ^ k) y = x * 2 ^ k + y := by
  obtain ⟨a, rfl⟩ := nat_of hx
  obtain ⟨b, rfl⟩ := nat_of hy.1
  have h2 : b < 2 ^ k := Int.ofNat_lt.1 (by rw [pow_cast]; exact hy.2)
  have hm : 2 ^ k ≤ 2 ^ 62 := Nat.pow_le_pow_right (by decide) hk
  rw [← pow_cast, ← Int.natCast_mul] at hs ⊢
  have := Nat.two_pow_add_eq_or_of_lt h2 a
  rw [Nat.mul_comm] at this
  generalize ha : a * 2 ^ k = A at *
  generalize 2 ^ k = K at *
  rw [or64_nat _ _ (by omega) (by omega), ← this, Int.natCast_add]

/-- Bytes. -/
def Bytes (b : List Int) : Prop := ∀ x ∈ b, 0 ≤ x ∧ x < 256
theorem Bytes.nth {b : List Int} (h : Bytes b) (i : Int) : 0 ≤ TL.nth b i ∧ TL.nth b i < 256 := by
  unfold TL.nth
  rw [List.getD_eq_getElem?_getD]
  cases hh : b[i.toNat]? with
  | none => exact ⟨Int.le_refl _, by decide⟩
  | some x => exact h x (List.mem_of_getElem? hh)

def wordL (b : List Int) (t : Int) : Int := nth b (4 * t) * 16777216 + nth b (4 * t + 1) * 65536 + nth b (4 * t + 2) * 256 + nth b (4 * t + 3)
theorem word_or {b0 b1 b2 b3 : Int} (h0 : 0 ≤ b0 ∧ b0 < 256) (h1 : 0 ≤ b1 ∧ b1 < 256) (h2 : 0 ≤ b2 ∧ b2 < 256) (h3 : 0 ≤ b3 ∧ b3 < 256) : or64 (or64 (or64 (b0 * 16777216) (b1 * 65536)) (b2 * 256)) b3 = b0 * 16777216 + b1 * 65536 + b2 * 256 + b3 := by
  have e1 := or_add 24 (x := b0) (y := b1 * 65536) (by decide) h0.1 (by omega) (by omega)
  have e2 := or_add 16 (x := b0 * 256 + b1) (y := b2 * 256) (by decide) (by omega) (by omega) (by omega)
  have e3 := or_add 8 (x := (b0 * 256 + b1) * 256 + b2) (y := b3) (by decide) (by omega) (by omega) (by omega)
  simp only [Int.reducePow] at e1 e2 e3
  rw [e1, show b0 * 16777216 + b1 * 65536 = (b0 * 256 + b1) * 65536 by omega, e2, show (b0 * 256 + b1) * 65536 + b2 * 256 = ((b0 * 256 + b1) * 256 + b2) * 256 by omega, e3]

def s0I (x : Int) : Int := xor64 (xor64 (turnI x 7) (turnI x 18)) (x / 8)
def s1I (x : Int) : Int := xor64 (xor64 (turnI x 17) (turnI x 19)) (x / 1024)
def Word (x : Int) : Prop := 0 ≤ x ∧ x < 4294967296
theorem s0_b {x : Int} (h : Word x) : Word (s0I x) := xor_b (xor_b (turn_b _ _) (turn_b _ _)) ⟨by have := h.1; omega, by have := h.2; have := h.1; omega⟩
theorem s1_b {x : Int} (h : Word x) : Word (s1I x) := xor_b (xor_b (turn_b _ _) (turn_b _ _)) ⟨by have := h.1; omega, by have := h.2; have := h.1; omega⟩
def nextW (l : List Int) (t : Int) : Int := (s1I (nth l (t - 2)) + nth l (t - 7) + s0I (nth l (t - 15)) + nth l (t - 16)) % 4294967296
def expW (b : List Int) : Nat → List Int
  | 0 => []
  | t + 1 => expW b t ++ [if t < 16 then wordL b t else nextW (expW b t) t]
theorem expW_len (b : List Int) : ∀ t, (expW b t).length = t
  | 0 => rfl
  | t + 1 => by rw [expW, List.length_append, expW_len b t]; rfl
theorem expW_word {b : List Int} (hb : Bytes b) : ∀ (t : Nat), ∀ x ∈ expW b t, Word x
  | 0 => fun x h => by simp [expW] at h
  | t + 1 => fun x h => by
    rw [expW, List.mem_append, List.mem_singleton] at h
    rcases h with h | rfl
    · exact expW_word hb t x h
    · split
      · have h0 := hb.nth (4 * t)
        have h1 := hb.nth (4 * t + 1)
        have h2 := hb.nth (4 * t + 2)
        have h3 := hb.nth (4 * t + 3)
        unfold Word wordL
        omega
      · unfold Word nextW
        omega
theorem nth_word {l : List Int} (h : ∀ x ∈ l, Word x) (i : Int) : Word (nth l i) := by
  unfold nth
  rw [List.getD_eq_getElem?_getD]
  cases hh : l[i.toNat]? with
  | none => exact ⟨Int.le_refl _, by decide⟩
  | some x => exact h x (List.mem_of_getElem? hh)

/-! ### Rounds -/
structure St where
  a : Int
  b : Int
  c : Int
  d : Int
  e : Int
  f : Int
  g : Int
  h : Int
def stL (s : St) : List Int := [s.a, s.b, s.c, s.d, s.e, s.f, s.g, s.h]
def StW (s : St) : Prop := Word s.a ∧ Word s.b ∧ Word s.c ∧ Word s.d ∧ Word s.e ∧ Word s.f ∧ Word s.g ∧ Word s.h
def chI (e f g : Int) : Int := xor64 (and64 e f) (and64 (xor64 4294967295 e) g)
def majI (a b c : Int) : Int := xor64 (xor64 (and64 a b) (and64 a c)) (and64 b c)
def S1I (e : Int) : Int := xor64 (xor64 (turnI e 6) (turnI e 11)) (turnI e 25)
def S0I (a : Int) : Int := xor64 (xor64 (turnI a 2) (turnI a 13)) (turnI a 22)
theorem ch_b {e f g : Int} (he : Word e) (hf : Word f) (hg : Word g) : Word (chI e f g) := xor_b (and_b he hf) (and_b (xor_b ⟨by decide, by decide⟩ he) hg)
theorem maj_b {a b c : Int} (ha : Word a) (hb : Word b) (hc : Word c) : Word (majI a b c) := xor_b (xor_b (and_b ha hb) (and_b ha hc)) (and_b hb hc)
theorem S1_b (e : Int) : Word (S1I e) := xor_b (xor_b (turn_b _ _) (turn_b _ _)) (turn_b _ _)
theorem S0_b (a : Int) : Word (S0I a) := xor_b (xor_b (turn_b _ _) (turn_b _ _)) (turn_b _ _)
def t1I (s : St) (k w : Int) : Int := s.h + S1I s.e + chI s.e s.f s.g + k + w
def t2I (s : St) : Int := S0I s.a + majI s.a s.b s.c
def stepS (s : St) (k w : Int) : St := ⟨(t1I s k w + t2I s) % 4294967296, s.a, s.b, s.c, (s.d + t1I s k w) % 4294967296, s.e, s.f, s.g⟩
theorem mod_w (x : Int) : Word (x % 4294967296) := by unfold Word; omega
theorem step_w {s : St} (h : StW s) (k w : Int) : StW (stepS s k w) := ⟨mod_w _, h.1, h.2.1, h.2.2.1, mod_w _, h.2.2.2.2.1, h.2.2.2.2.2.1, h.2.2.2.2.2.2.1⟩
def roundS (b : List Int) (s : St) : Nat → St
  | 0 => s
  | t + 1 => stepS (roundS b s t) (nth keysL t) (nth (expW b 64) t)
theorem round_w (b : List Int) {s : St} (h : StW s) : ∀ t, StW (roundS b s t)
  | 0 => h
  | t + 1 => step_w (round_w b h t) _ _
def addS (s v : St) : St := ⟨(s.a + v.a) % 4294967296, (s.b + v.b) % 4294967296, (s.c + v.c) % 4294967296, (s.d + v.d) % 4294967296, (s.e + v.e) % 4294967296, (s.f + v.f) % 4294967296, (s.g + v.g) % 4294967296, (s.h + v.h) % 4294967296⟩
/-- What a block makes of the eight words. -/
def blockS (s : St) (b : List Int) : St := addS s (roundS b s 64)
theorem block_w (s : St) (b : List Int) : StW (blockS s b) := ⟨mod_w _, mod_w _, mod_w _, mod_w _, mod_w _, mod_w _, mod_w _, mod_w _⟩

end Go.TL
