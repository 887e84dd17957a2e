/- What is drawn for HeldPut: that there is a list, a release, a part, whatever the bytes. No conditions but those that are written. -/
import Derived.Test.YthkahdjgkcccgaaG16
namespace Go.TL
set_option linter.unusedSimpArgs false
open Go.Proofs Go.RowKit
attribute [local irreducible] wpOpsT wpT EndT Ex.seq Ex.block W

set_option maxHeartbeats 4000000 in
theorem spec_l1Max (a b : Int) : CallsT Try.prog [] F.spec_l1Max [.v (.int .i64 a), .v (.int .i64 b)] (.v (.int .i64 (max a b))) [] := by
  refine fnT C.spec_l1Max ?_
  refine run ?_
  refine r_ifd (fun h => ?_) (fun h => ?_)
  · rw [show max a b = a by omega]
    refine run ?_
    exact r_end [] []
  · rw [show max a b = b by omega]
    refine run ?_
    exact r_end [] []
instance (a b : Int) : Con Try.prog F.spec_l1Max [.v (.int .i64 a), .v (.int .i64 b)] True (.v (.int .i64 (max a b))) [] := ⟨fun _ => spec_l1Max a b⟩

set_option linter.unusedSimpArgs false in
set_option maxHeartbeats 8000000 in
theorem drawPut_ex (l : List Int) (hl : (∀ x ∈ l, 0 ≤ x ∧ x < 256) ∧ l.length ≤ 140737488351232) : ∃ (o : List HeldV) (r i : Int) (s : ByteArray), capJ o ∧ s.size ≤ 40 ∧
    CallsT Try.prog [] F.spec_DrawHeldPut [.sl false 0 l.length 1 (rowT u8C l)] (.tup [.ref 0 [] 0 o.length, .v (.int .i64 r), .v (.int .i64 i), .v (.string s)]) [⟨4, true, rowT heldO o⟩] := by
  have h0 := spec_l1New l hl
  have hc0 : curP l ((0, newS l (newN l)) : Int × Int).1 := ⟨hl.1, hl.2, by dsimp only; omega, by dsimp only; omega⟩
  obtain ⟨o, c1, ho, hc1, h1⟩ := helds14_ex l (0, newS l (newN l)) hc0
  obtain ⟨r, c2, hr, hc2, h2⟩ := rel_ex l c1 hc1
  have hol := ho.1
  dsimp only at h1
  by_cases hne : o = []
  · subst hne
    obtain ⟨i, c3, hi, hc3, h3⟩ := below_ex l c2 3 hc2 (by omega)
    obtain ⟨s, c4, hs, hc4, h4⟩ := text_ex l c3 17 hc3 (by omega)
    refine ⟨[], r, i, s, ho, by omega, ?_⟩
    refine fnT C.spec_DrawHeldPut ?_
    refine runC ?_
    refine r_callp false h0 ?_
    refine runC ?_
    refine r_calln [0] h1 ?_
    refine runC ?_
    refine r_call1p 0 h2 ?_
    refine runC ?_
    refine r_call1p 0 h3 ?_
    refine runC ?_
    refine r_call1p 0 h4 ?_
    refine run ?_
    exact r_end [1] []
  have hlo : 0 < o.length := List.length_pos_iff.2 hne
  have hlo2 : (0 : Int) < o.length := by omega
  obtain ⟨b, c3, hc3, h3⟩ := once_ex l c2 4 hc2 (by omega)
  cases b with
  | true =>
    obtain ⟨i, c4, hi, hc4, h4⟩ := below_ex l c3 3 hc3 (by omega)
    obtain ⟨s, c5, hs, hc5, h5⟩ := text_ex l c4 17 hc4 (by omega)
    refine ⟨o, r, i, s, ho, by omega, ?_⟩
    refine fnT C.spec_DrawHeldPut ?_
    refine runC ?_
    refine r_callp false h0 ?_
    refine runC ?_
    refine r_calln [0] h1 ?_
    refine runC ?_
    refine r_call1p 0 h2 ?_
    refine runC ?_
    rw [decide_eq_true hlo2, gT_1 hlo2]
    refine runC ?_
    refine r_call1p 0 h3 ?_
    refine runC ?_
    refine r_call1p 0 h4 ?_
    refine runC ?_
    refine r_call1p 0 h5 ?_
    refine run ?_
    exact r_end [1] []
  | false =>
    obtain ⟨w, c4, hw, hc4, h4⟩ := below_ex l c3 o.length hc3 (by omega)
    obtain ⟨n, rfl⟩ := Int.eq_ofNat_of_zero_le hw.1
    have hn : n < o.length := by omega
    have hx := ho.2 _ (nth_mem hn)
    obtain ⟨j, c5, hj, hc5, h5⟩ := below_ex l c4 ((nth o (n : Nat)).parts.length + 1) hc4 (by have := hx.2.1; omega)
    refine ⟨o, (nth o (n : Nat)).rel, j, strOfT (List.replicate (max (min 16 (wrap64 ((nth o (n : Nat)).size - j * 16))) 0).toNat 0), ho, by rw [strOf_size, List.length_replicate]; omega, ?_⟩
    have hxl := hx.2.1
    have ht : (o.take n).length = n := by rw [List.length_take]; omega
    rw [row_split (enc := heldO) o n hn] at h1 ⊢
    dsimp only [heldO, List.cons_append, List.nil_append] at h1 ⊢
    by_cases hp : (nth o (n : Nat)).parts.length = 0
    · have hpn := List.eq_nil_of_length_eq_zero hp
      rw [hpn] at h1 h5 ⊢
      rw [show ownC ([] : List ByteArray).length 1 (rowT strC []) = .sl false 0 0 1 [] from ownC_nil _ _] at h1 ⊢
      refine fnT C.spec_DrawHeldPut ?_
      refine runC ?_
      refine r_callp false h0 ?_
      refine runC ?_
      refine r_calln [0] h1 ?_
      refine runC ?_
      refine r_call1p 0 h2 ?_
      refine runC ?_
      rw [decide_eq_true hlo2, gT_1 hlo2]
      refine runC ?_
      refine r_call1p 0 h3 ?_
      refine runC ?_
      refine r_call1p 0 h4 ?_
      refine runC ?_
      refine r_call1p 0 h5 ?_
      refine runC ?_
      refine r_callc ?_ (hp := dr_still)
      refine runC ?_
      refine r_callc ?_ (hp := dr_still)
      refine runC ?_
      exact r_end [1] []
    · rw [ownC_pos _ _ hp] at h1 ⊢
      refine fnT C.spec_DrawHeldPut ?_
      refine runC ?_
      refine r_callp false h0 ?_
      refine runC ?_
      refine r_calln [0] h1 ?_
      refine runC ?_
      refine r_call1p 0 h2 ?_
      refine runC ?_
      rw [decide_eq_true hlo2, gT_1 hlo2]
      refine runC ?_
      refine r_call1p 0 h3 ?_
      refine runC ?_
      refine r_call1p 0 h4 ?_
      refine runC ?_
      refine r_call1p 0 h5 ?_
      refine runC ?_
      refine r_callc ?_ (hp := dr_still)
      refine runC ?_
      refine r_callc ?_ (hp := dr_still)
      refine runC ?_
      exact r_end [1] []

end Go.TL
