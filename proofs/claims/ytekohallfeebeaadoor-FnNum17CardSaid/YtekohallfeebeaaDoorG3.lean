/- What is drawn for numbers and their texts. No conditions but those that are written. -/
import Derived.Test.YtekohallfeebeaaDoorG2
import Derived.Test.YtekohallfeebeaaDoorD6
namespace Go.TL
open Go.Proofs Go.RowKit
attribute [local irreducible] wpOpsT wpT EndT Ex.seq Ex.block W

def textM (l : List Int) : List Int := [0, -1, 10, -10, 9223372036854775807, -9223372036854775808, belowV 100000 l 0 (newS l (newN l)), -(belowV 1000 l (belowN 100000 l 0) (belowS 100000 (newS l (newN l))))]
def textD (l : List Int) : Int := nth (textM l) (belowV (textM l).length l (belowN 1000 l (belowN 100000 l 0)) (belowS 1000 (belowS 100000 (newS l (newN l)))))
theorem textD_b (l : List Int) : -9223372036854775808 ≤ textD l ∧ textD l ≤ 9223372036854775807 := by
  have h := below_b (n := (textM l).length) (by show (0 : Int) < 8; decide) l (belowN 1000 l (belowN 100000 l 0)) (belowS 1000 (belowS 100000 (newS l (newN l))))
  have h1 := below_b (n := 100000) (by decide) l 0 (newS l (newN l))
  have h2 := below_b (n := 1000) (by decide) l (belowN 100000 l 0) (belowS 100000 (newS l (newN l)))
  have hm : textD l ∈ textM l := by
    have := nth_mem (l := textM l) (i := (belowV (textM l).length l (belowN 1000 l (belowN 100000 l 0)) (belowS 1000 (belowS 100000 (newS l (newN l))))).toNat) (by omega)
    rwa [nth_toNat] at this
  unfold textM at hm
  simp only [List.mem_cons, List.not_mem_nil, or_false] at hm
  omega

set_option maxHeartbeats 4000000 in
theorem spec_DrawTextOf (l : List Int) (hpre : (∀ x ∈ l, 0 ≤ x ∧ x < 256) ∧ l.length ≤ 140737488351232) : CallsT Tryd.prog [] F.spec_DrawTextOf [.sl false 0 l.length 1 (rowT u8C l)] (.v (.int .i64 (textD l))) [] := by
  refine fnT C.spec_DrawTextOf ?_
  obtain ⟨hb, hl⟩ := hpre
  have c0 : curP l 0 := ⟨hb, hl, by omega, by omega⟩
  have c1 := below_next 100000 c0
  have c2 := below_next 1000 c1
  have b1 := below_b (n := 100000) (by decide) l 0 (newS l (newN l))
  have b2 := below_b (n := 1000) (by decide) l (belowN 100000 l 0) (belowS 100000 (newS l (newN l)))
  refine runC ?_
  refine r_callp false (spec_l1New l ⟨hb, hl⟩) ?_
  refine runC ?_
  refine r_call1 ?_
  refine runC ?_
  refine r_call1 ?_
  refine runC ?_
  refine r_call1p 0 (spec_l1PickInt l (belowN 1000 l (belowN 100000 l 0)) (belowS 1000 (belowS 100000 (newS l (newN l)))) 1 (textM l) ⟨c2, by show 0 < 8; decide, by show 8 ≤ _; decide⟩) ?_
  refine run ?_
  exact r_end [] []
instance (l : List Int) : Con Tryd.prog F.spec_DrawTextOf [.sl false 0 l.length 1 (rowT u8C l)] ((∀ x ∈ l, 0 ≤ x ∧ x < 256) ∧ l.length ≤ 140737488351232) (.v (.int .i64 (textD l))) [] := ⟨fun h => spec_DrawTextOf l h⟩

theorem itoa_size (n : Int) (h0 : -9223372036854775808 ≤ n) (h1 : n ≤ 9223372036854775807) : (itoaB n).size ≤ 21 := by
  rw [size_itoa]
  have h := (itoa_parts n).2
  have hd := dec_20 (N := n.natAbs) (by omega)
  rw [← h] at hd
  unfold magL at hd
  split at hd
  · rw [List.length_drop] at hd; omega
  · omega
def numA (l : List Int) : Int := belowV 100000 l 0 (newS l (newN l))
def numC (l : List Int) : Int := belowV 99 l (belowN 100000 l 0) (belowS 100000 (newS l (newN l)))
def numM (l : List Int) : List ByteArray := [⟨#[48]⟩, ⟨#[45, 48]⟩, ⟨#[48, 48]⟩, ⟨#[]⟩, ⟨#[45]⟩, ⟨#[43, 49]⟩, ⟨#[55]⟩, ⟨#[45, 49, 50]⟩, ⟨#[57, 57, 57, 57, 57, 57, 57, 57, 57, 57]⟩, ⟨#[45, 57, 57, 57, 57, 57, 57, 57, 57, 57, 57]⟩, ⟨#[49, 48, 48, 48, 48, 48, 48, 48, 48, 48, 48]⟩, ⟨#[49, 48, 48, 48, 48, 48, 48, 48, 48, 48]⟩, ⟨#[49, 50, 120]⟩, ⟨#[32, 49]⟩, itoaB (numA l), itoaB (-(numC l))]
def numD (l : List Int) : ByteArray := nth (numM l) (belowV (numM l).length l (belowN 99 l (belowN 100000 l 0)) (belowS 99 (belowS 100000 (newS l (newN l)))))
theorem numD_b (l : List Int) : (numD l).size ≤ 21 := by
  have h := below_b (n := (numM l).length) (by show (0 : Int) < 16; decide) l (belowN 99 l (belowN 100000 l 0)) (belowS 99 (belowS 100000 (newS l (newN l))))
  have h1 := below_b (n := 100000) (by decide) l 0 (newS l (newN l))
  have h2 := below_b (n := 99) (by decide) l (belowN 100000 l 0) (belowS 100000 (newS l (newN l)))
  have s1 := itoa_size (numA l) (by unfold numA; omega) (by unfold numA; omega)
  have s2 := itoa_size (-(numC l)) (by unfold numC; omega) (by unfold numC; omega)
  have hm : numD l ∈ numM l := by
    have := nth_mem (l := numM l) (i := (belowV (numM l).length l (belowN 99 l (belowN 100000 l 0)) (belowS 99 (belowS 100000 (newS l (newN l))))).toNat) (by omega)
    rwa [nth_toNat] at this
  generalize numD l = x at hm
  unfold numM at hm
  simp only [List.mem_cons, List.not_mem_nil, or_false] at hm
  rcases hm with rfl | rfl | rfl | rfl | rfl | rfl | rfl | rfl | rfl | rfl | rfl | rfl | rfl | rfl | rfl | rfl
  all_goals first | assumption | decide

set_option maxHeartbeats 4000000 in
theorem spec_DrawNumOf (l : List Int) (hpre : (∀ x ∈ l, 0 ≤ x ∧ x < 256) ∧ l.length ≤ 140737488351232) : CallsT Tryd.prog [] F.spec_DrawNumOf [.sl false 0 l.length 1 (rowT u8C l)] (.v (.string (numD l))) [] := by
  refine fnT C.spec_DrawNumOf ?_
  obtain ⟨hb, hl⟩ := hpre
  have c0 : curP l 0 := ⟨hb, hl, by omega, by omega⟩
  have c1 := below_next 100000 c0
  have c2 := below_next 99 c1
  have b1 := below_b (n := 100000) (by decide) l 0 (newS l (newN l))
  have b2 := below_b (n := 99) (by decide) l (belowN 100000 l 0) (belowS 100000 (newS l (newN l)))
  refine runC ?_
  refine r_callp false (spec_l1New l ⟨hb, hl⟩) ?_
  refine runC ?_
  refine r_call1 ?_
  refine runC ?_
  refine r_callc ?_
  refine runC ?_
  refine r_call1 ?_
  refine runC ?_
  refine r_callc ?_
  refine runC ?_
  refine r_call1p 0 (spec_l1Pick l (belowN 99 l (belowN 100000 l 0)) (belowS 99 (belowS 100000 (newS l (newN l)))) 1 (numM l) ⟨c2, by show 0 < 16; decide, by show 16 ≤ _; decide⟩) ?_
  refine run ?_
  exact r_end [] []
instance (l : List Int) : Con Tryd.prog F.spec_DrawNumOf [.sl false 0 l.length 1 (rowT u8C l)] ((∀ x ∈ l, 0 ≤ x ∧ x < 256) ∧ l.length ≤ 140737488351232) (.v (.string (numD l))) [] := ⟨fun h => spec_DrawNumOf l h⟩

end Go.TL
