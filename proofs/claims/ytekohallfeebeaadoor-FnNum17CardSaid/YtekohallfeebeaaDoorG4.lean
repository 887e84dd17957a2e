/- The law of numbers and their texts on trees. No conditions but those that are written. -/
import Derived.Test.YtekohallfeebeaaDoorG3
import Derived.Test.YtekohallfeebeaaDoorOp0
namespace Go.TL
open Go.Proofs Go.RowKit Go.Lib

theorem digits_le : ∀ (k u : Nat), u < 10 ^ (k + 1) → nDigits u ≤ k + 1
  | 0, u, h => by rw [nDigits_small (by simpa using h)]; omega
  | k + 1, u, h => by
    by_cases h1 : u < 10
    · rw [nDigits_small h1]; omega
    · rw [nDigits_big h1]
      have := digits_le k (u / 10) (by
        rw [Nat.div_lt_iff_lt_mul (by decide)]
        rw [Nat.pow_succ] at h
        exact h)
      omega
theorem dec_10 {N : Nat} (h : N < 10000000000) : (decDigits N).length ≤ 10 := by
  rw [dec_len]
  exact digits_le 9 N h
theorem ok_itoa (n : Int) : numOk (itoaB n) 10 ↔ -10000000000 < n ∧ n < 10000000000 := by
  have e : (itoaB n).data.toList = itoa n := by simp [itoaB]
  unfold numOk numOkL
  rw [e, numV_itoa, (itoa_parts n).2]
  constructor
  · rintro ⟨_, h⟩
    have := dec_lt h
    omega
  · intro h
    exact ⟨rfl, dec_10 (by omega)⟩
theorem num_itoa {n : Int} (h : numOk (itoaB n) 10) : numB (itoaB n) 10 = n := by
  unfold numB
  rw [if_pos h, show (itoaB n).data.toList = itoa n by simp [itoaB], numV_itoa]
theorem text_num {s : ByteArray} (h : numOk s 10) : itoaB (numB s 10) = s := by
  unfold numB
  rw [if_pos h]
  apply ByteArray.ext
  have := h.1
  unfold itoaB
  rw [this]
theorem numB_b {s : ByteArray} : -9223372036854775808 ≤ numB s 10 ∧ numB s 10 ≤ 9223372036854775807 := by
  unfold numB
  split
  · rename_i h
    have := numOk_b h
    omega
  · omega

set_option maxHeartbeats 4000000 in
theorem laws_big (k : Nat) (l : List Int) : CallsT Tryd.prog [] F.laws_big [.sl false k l.length 1 (rowT u8C l)] (.v (.bool (decide (1048576 < (l.length : Int))))) [] := by
  refine fnT C.laws_big ?_
  refine run ?_
  exact r_end [] []
instance (k : Nat) (l : List Int) : Con Tryd.prog F.laws_big [.sl false k l.length 1 (rowT u8C l)] True (.v (.bool (decide (1048576 < (l.length : Int))))) [] := ⟨fun _ => laws_big k l⟩

set_option maxHeartbeats 4000000 in
theorem laws_FnNum17 (l : List Int) (hpre : (∀ x ∈ l, 0 ≤ x ∧ x < 256) ∧ l.length ≤ 140737488351232) : CallsT Tryd.prog [] F.laws_FnNum17 [.sl false 0 l.length 1 (rowT u8C l)] (.v (.bool true)) [] := by
  refine fnT C.laws_FnNum17 ?_
  have hl := hpre.2
  have ht := textD_b l
  have hs := itoa_size (textD l) ht.1 ht.2
  have hd := numD_b l
  have hok := ok_itoa (textD l)
  have hnb := numB_b (s := numD l)
  refine run ?_
  refine r_ifd (fun h => ?_) (fun h => ?_)
  · refine run ?_
    exact r_end [] []
  refine runC ?_
  refine r_callp false (spec_DrawTextOf l hpre) ?_
  refine run ?_
  have hx : ¬ (¬ (numOk (itoaB (textD l)) 10 ↔ -10000000000 < textD l ∧ textD l < 10000000000) ∨ numOk (itoaB (textD l)) 10 ∧ ¬ numB (itoaB (textD l)) 10 = textD l) := by
    rintro (h1 | ⟨h1, h2⟩)
    · exact h1 hok
    · exact h2 (num_itoa h1)
  refine r_ifd (fun h2 => absurd h2 hx) (fun _ => ?_)
  refine runC ?_
  refine r_callp false (spec_DrawNumOf l hpre) ?_
  refine run ?_
  refine r_endv ?_
  refine congrArg _ (decide_eq_true ?_)
  by_cases hk : numOk (numD l) 10
  · have he := text_num hk
    simp [hk, he]
  · simp [hk]
instance (l : List Int) : Con Tryd.prog F.laws_FnNum17 [.sl false 0 l.length 1 (rowT u8C l)] ((∀ x ∈ l, 0 ≤ x ∧ x < 256) ∧ l.length ≤ 140737488351232) (.v (.bool true)) [] := ⟨fun h => laws_FnNum17 l h⟩

/-- Bytes that come in. -/
theorem open_bytes : Opens Tryd.prog Y.sl_uint8 (fun l : List Int => [.sl false 0 l.length 1 (rowT u8C l)]) (fun l => l.length * 1 ≤ 140737488351232 ∧ ∀ x ∈ l, (Lit.int .u8 x).wf = true) :=
  Opens.sl (e := Y.uint8) (sz := 1) (bs := 1) (enc := u8C) (by kernel_rfl) (by kernel_rfl) (by kernel_rfl) (by decide) (fun _ => rfl) (.int (by kernel_rfl))
theorem wf_u8 {x : Int} (h : (Lit.int .u8 x).wf = true) : 0 ≤ x ∧ x < 256 := by
  simp [Lit.wf, IntKind.min, IntKind.max, IntKind.bits, IntKind.signed] at h
  omega

end Go.TL
