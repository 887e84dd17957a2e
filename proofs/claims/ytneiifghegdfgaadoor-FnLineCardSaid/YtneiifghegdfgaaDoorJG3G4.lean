/- Texts joined. No conditions but those that are written. -/
import Derived.Test.YtneiifghegdfgaaDoorG2
import Derived.Test.YtneiifghegdfgaaDoorD6
import Derived.Test.YtneiifghegdfgaaDoorOp0
/- What is drawn for numbers and their texts. No conditions but those that are written. -/
namespace Go.TL
set_option linter.unusedSimpArgs false
open Go.Proofs Go.RowKit
attribute [local irreducible] wpOpsT wpT EndT Ex.seq Ex.block W

def textM (l : List Int) : List Int := [0, -1, 10, -10, 9223372036854775807, -9223372036854775808, belowV 100000 l 0 (newS l (newN l)), -(belowV 1000 l (belowN 100000 l 0) (belowS 100000 (newS l (newN l))))]
def textD (l : List Int) : Int := nth (textM l) (belowV (textM l).length l (belowN 1000 l (belowN 100000 l 0)) (belowS 1000 (belowS 100000 (newS l (newN l)))))
theorem textD_b (l : List Int) : -9223372036854775808 ≤ textD l ∧ textD l ≤ 9223372036854775807 := by
  have h := below_b (n := (textM l).length) (by show (0 : Int) < 8; decide) l (belowN 1000 l (belowN 100000 l 0)) (belowS 1000 (belowS 100000 (newS l (newN l))))
  have h1 := below_b (n := 100000) (by decide) l 0 (newS l (newN l))
  have h2 := below_b (n := 1000) (by decide) l (belowN 100000 l 0) (belowS 100000 (newS l (newN l)))
  have hm : textD l ∈ textM l := by
    have := nth_mem (l := textM l) (i := (belowV (textM l).length l (belowN 1000 l (belowN 100000 l 0)) (belowS 1000 (belowS 100000 (newS l (newN l))))).toNat) (by omega)
    rwa [nth_toNat] at this
  unfold textM at hm
  simp only [List.mem_cons, List.not_mem_nil, or_false] at hm
  omega

theorem itoa_size (n : Int) (h0 : -9223372036854775808 ≤ n) (h1 : n ≤ 9223372036854775807) : (itoaB n).size ≤ 21 := by
  rw [size_itoa]
  have h := (itoa_parts n).2
  have hd := dec_20 (N := n.natAbs) (by omega)
  rw [← h] at hd
  unfold magL at hd
  split at hd
  · rw [List.length_drop] at hd; omega
  · omega
def numA (l : List Int) : Int := belowV 100000 l 0 (newS l (newN l))
def numC (l : List Int) : Int := belowV 99 l (belowN 100000 l 0) (belowS 100000 (newS l (newN l)))
def numM (l : List Int) : List ByteArray := [⟨#[48]⟩, ⟨#[45, 48]⟩, ⟨#[48, 48]⟩, ⟨#[]⟩, ⟨#[45]⟩, ⟨#[43, 49]⟩, ⟨#[55]⟩, ⟨#[45, 49, 50]⟩, ⟨#[57, 57, 57, 57, 57, 57, 57, 57, 57, 57]⟩, ⟨#[45, 57, 57, 57, 57, 57, 57, 57, 57, 57, 57]⟩, ⟨#[49, 48, 48, 48, 48, 48, 48, 48, 48, 48, 48]⟩, ⟨#[49, 48, 48, 48, 48, 48, 48, 48, 48, 48]⟩, ⟨#[49, 50, 120]⟩, ⟨#[32, 49]⟩, itoaB (numA l), itoaB (-(numC l))]
def numD (l : List Int) : ByteArray := nth (numM l) (belowV (numM l).length l (belowN 99 l (belowN 100000 l 0)) (belowS 99 (belowS 100000 (newS l (newN l)))))
theorem numD_b (l : List Int) : (numD l).size ≤ 21 := by
  have h := below_b (n := (numM l).length) (by show (0 : Int) < 16; decide) l (belowN 99 l (belowN 100000 l 0)) (belowS 99 (belowS 100000 (newS l (newN l))))
  have h1 := below_b (n := 100000) (by decide) l 0 (newS l (newN l))
  have h2 := below_b (n := 99) (by decide) l (belowN 100000 l 0) (belowS 100000 (newS l (newN l)))
  have s1 := itoa_size (numA l) (by unfold numA; omega) (by unfold numA; omega)
  have s2 := itoa_size (-(numC l)) (by unfold numC; omega) (by unfold numC; omega)
  have hm : numD l ∈ numM l := by
    have := nth_mem (l := numM l) (i := (belowV (numM l).length l (belowN 99 l (belowN 100000 l 0)) (belowS 99 (belowS 100000 (newS l (newN l))))).toNat) (by omega)
    rwa [nth_toNat] at this
  generalize numD l = x at hm
  unfold numM at hm
  simp only [List.mem_cons, List.not_mem_nil, or_false] at hm
  rcases hm with rfl | rfl | rfl | rfl | rfl | rfl | rfl | rfl | rfl | rfl | rfl | rfl | rfl | rfl | rfl | rfl
  all_goals first | assumption | decide

end Go.TL

/- The law of numbers and their texts on trees. No conditions but those that are written. -/
namespace Go.TL
set_option linter.unusedSimpArgs false
open Go.Proofs Go.RowKit Go.Lib

theorem digits_le : ∀ (k u : Nat), u < 10 ^ (k + 1) → nDigits u ≤ k + 1
  | 0, u, h => by rw [nDigits_small (by simpa using h)]; omega
  | k + 1, u, h => by
    by_cases h1 : u < 10
    · rw [nDigits_small h1]; omega
    · rw [nDigits_big h1]
      have := digits_le k (u / 10) (by
        rw [Nat.div_lt_iff_lt_mul (by decide)]
        rw [Nat.pow_succ] at h
        exact h)
      omega
theorem dec_10 {N : Nat} (h : N < 10000000000) : (decDigits N).length ≤ 10 := by
  rw [dec_len]
  exact digits_le 9 N h
theorem ok_itoa (n : Int) : numOk (itoaB n) 10 ↔ -10000000000 < n ∧ n < 10000000000 := by
  have e : (itoaB n).data.toList = itoa n := by simp [itoaB]
  unfold numOk numOkL
  rw [e, numV_itoa, (itoa_parts n).2]
  constructor
  · rintro ⟨_, h⟩
    have := dec_lt h
    omega
  · intro h
    exact ⟨rfl, dec_10 (by omega)⟩
theorem num_itoa {n : Int} (h : numOk (itoaB n) 10) : numB (itoaB n) 10 = n := by
  unfold numB
  rw [if_pos h, show (itoaB n).data.toList = itoa n by simp [itoaB], numV_itoa]
theorem text_num {s : ByteArray} (h : numOk s 10) : itoaB (numB s 10) = s := by
  unfold numB
  rw [if_pos h]
  apply ByteArray.ext
  have := h.1
  unfold itoaB
  rw [this]
theorem numB_b {s : ByteArray} : -9223372036854775808 ≤ numB s 10 ∧ numB s 10 ≤ 9223372036854775807 := by
  unfold numB
  split
  · rename_i h
    have := numOk_b h
    omega
  · omega

set_option maxHeartbeats 4000000 in
theorem laws_big (k : Nat) (l : List Int) : CallsT Tryd.prog [] F.laws_big [.sl false k l.length 1 (rowT u8C l)] (.v (.bool (decide (1048576 < (l.length : Int))))) [] := by
  refine fnT C.laws_big ?_
  refine run ?_
  exact r_end [] []
instance (k : Nat) (l : List Int) : Con Tryd.prog F.laws_big [.sl false k l.length 1 (rowT u8C l)] True (.v (.bool (decide (1048576 < (l.length : Int))))) [] := ⟨fun _ => laws_big k l⟩

/-- Bytes that come in. -/
theorem open_bytes : Opens Tryd.prog Y.sl_uint8 (fun l : List Int => [.sl false 0 l.length 1 (rowT u8C l)]) (fun l => l.length * 1 ≤ 140737488351232 ∧ ∀ x ∈ l, (Lit.int .u8 x).wf = true) :=
  Opens.sl (e := Y.uint8) (sz := 1) (bs := 1) (enc := u8C) (by kernel_rfl) (by kernel_rfl) (by kernel_rfl) (by decide) (fun _ => rfl) (.int (by kernel_rfl))
theorem wf_u8 {x : Int} (h : (Lit.int .u8 x).wf = true) : 0 ≤ x ∧ x < 256 := by
  simp [Lit.wf, IntKind.min, IntKind.max, IntKind.bits, IntKind.signed] at h
  omega

end Go.TL
