/- Numbers read from texts: the reference. No conditions but those that are written. -/
import Derived.Test.YtneiifghegdfgaaDoorD2
import Derived.Test.YtneiifghegdfgaaDoorH1
namespace Go.TL
set_option linter.unusedSimpArgs false
open Go.Proofs Go.RowKit
attribute [local irreducible] wpOpsT wpT EndT Ex.seq Ex.block W
open Go.Lib (itoa decDigits)

theorem valD_lt : ∀ (l : List UInt8), (∀ c ∈ l, digC c) → valD 0 l < 10 ^ l.length := by
  have key : ∀ (l : List UInt8) (acc : Nat), (∀ c ∈ l, digC c) → valD acc l < (acc + 1) * 10 ^ l.length := by
    intro l
    induction l with
    | nil => intro acc _; show acc < (acc + 1) * 1; omega
    | cons c r ih =>
      intro acc h
      have h1 := ih (acc * 10 + (c.toNat - 48)) (fun x hx => h x (List.mem_cons_of_mem _ hx))
      have h2 := h c List.mem_cons_self
      unfold digC at h2
      refine Nat.lt_of_lt_of_le h1 ?_
      rw [List.length_cons, Nat.pow_succ, Nat.mul_comm (10 ^ r.length) 10, ← Nat.mul_assoc]
      exact Nat.mul_le_mul_right _ (by omega)
  intro l h
  have := key l 0 h
  simpa using this
theorem take_val {l : List UInt8} {j : Nat} (h : j < l.length) : valD 0 (l.take (j + 1)) = valD 0 (l.take j) * 10 + ((l.getD j 0).toNat - 48) := by
  rw [List.take_succ_eq_append_getElem h, valD_app, valD_1, List.getD_eq_getElem?_getD, List.getElem?_eq_getElem h]; rfl
theorem str_nth (s : ByteArray) (i : Nat) (h : i < s.size) : nth (strL s) i = ((s.data.toList.getD i 0).toNat : Int) := by
  have h' : i < s.data.toList.length := h
  unfold nth strL
  rw [Int.toNat_natCast, List.getD_eq_getElem?_getD, List.getElem?_map, List.getD_eq_getElem?_getD, List.getElem?_eq_getElem h']; rfl
theorem mag_nth (s : ByteArray) (f j : Nat) (h : j < (s.data.toList.drop f).length) : (((s.data.toList.drop f).getD j 0).toNat : Int) = nth (strL s) (f + (j : Int)) := by
  rw [List.length_drop] at h
  have h' : f + j < s.data.toList.length := by omega
  have := str_nth s (f + j) h'
  rw [Int.natCast_add] at this
  rw [this, List.getD_eq_getElem?_getD, List.getElem?_drop, List.getD_eq_getElem?_getD]
theorem neg_nth (s : ByteArray) : negC s.data.toList = true ↔ 0 < (s.size : Int) ∧ nth (strL s) 0 = 45 := by
  have hl : s.data.toList.length = s.size := rfl
  cases h : s.data.toList with
  | nil => rw [h] at hl; simp only [List.length_nil] at hl; simp [negC]; omega
  | cons c r =>
    have h0 : 0 < s.size := by rw [h] at hl; simp only [List.length_cons] at hl; omega
    have := str_nth s 0 h0
    rw [h] at this
    simp only [List.getD_cons_zero] at this
    rw [show nth (strL s) 0 = nth (strL s) (0 : Nat) from rfl, this]
    simp only [negC, beq_iff_eq]
    omega
theorem numOk_text {s : ByteArray} {most : Nat} (h : (magL s.data.toList).length ≤ most) : numOk s most ↔ itoaB (numV s.data.toList) = s := by
  have e : itoaB (numV s.data.toList) = s ↔ itoa (numV s.data.toList) = s.data.toList := by
    unfold itoaB
    constructor
    · intro h2
      have := congrArg (fun x : ByteArray => x.data.toList) h2
      simpa using this
    · intro h2; rw [h2]
  rw [e]
  exact ⟨fun hk => hk.1, fun hk => ⟨hk, h⟩⟩

set_option maxHeartbeats 4000000 in
theorem spec_NumOf (s : ByteArray) (hpre : s.size ≤ 100000000000000) : CallsT Tryd.prog [] F.spec_NumOf [.v (.string s)] (.tup [.v (.int .i64 (numB s 10)), .v (.bool (decide (numOk s 10)))]) [] := by
  refine fnT C.spec_NumOf ?_
  have hsl := strL_length s
  refine run ?_
  refine r_ifd (fun h => ?_) (fun h => ?_)
  · have h0 : 0 < s.size := by omega
    have hng : negC s.data.toList = true := by have := neg_nth s; exact this.2 h
    have hmag : magL s.data.toList = s.data.toList.drop 1 := by unfold magL; rw [hng]; rfl
    have hml : (magL s.data.toList).length = s.size - 1 := by rw [hmag, List.length_drop]; rfl
    have hno : ∀ (j : Nat), j < (magL s.data.toList).length → ((magL s.data.toList).getD j 0).toNat = nth (strL s) (1 + (j : Int)) := by
      intro j hj
      rw [hmag] at hj ⊢
      exact mag_nth s 1 j hj
    refine run ?_
    refine r_ifd (fun h2 => ?_) (fun h2 => ?_)
    · have hn : ¬ numOk s 10 := by
        intro hk
        have h3 := (numOk_mag hk).1
        have h4 := dec_len (numV s.data.toList).natAbs
        have h5 := Lib.nDigits_pos (numV s.data.toList).natAbs
        have h6 := hk.2
        rw [← h3, hml] at h4
        omega
      rw [show numB s 10 = 0 from if_neg hn]
      refine run ?_
      exact r_end [] []
    have h2 := Decidable.not_not.1 h2
    refine run ?_
    refine r_for (s.size - 1) (fun j => [(0, .v (.string s)), (4, .v (.int .i64 1)), (5, .v (.int .i64 ((valD 0 ((magL s.data.toList).take j) : Nat)))), (6, .v (.int .i64 (1 + (j : Int))))]) (fun _ => []) (fun j => ∀ c ∈ (magL s.data.toList).take j, digC c) [] [] (by simp) Gc.of (fun j hj hv => ?_) (fun hv => ?_)
    · have hj2 : j < (magL s.data.toList).length := by omega
      have hc := hno j hj2
      have hb := valD_lt _ hv
      rw [List.length_take] at hb
      have h10 : 10 ^ (min j (magL s.data.toList).length) ≤ 10 ^ 10 := Nat.pow_le_pow_right (by decide) (by omega)
      have hb2 : valD 0 ((magL s.data.toList).take j) < 10000000000 := Nat.lt_of_lt_of_le hb h10
      have ht := take_val (l := magL s.data.toList) hj2
      have hu := bytesP_nth (bytesP_str s) (1 + (j : Int))
      refine run ?_
      refine r_ifd (fun h3 => ?_) (fun h3 => ?_)
      · have hn : ¬ numOk s 10 := by
          intro hk
          have h4 := dec_dig (numV s.data.toList).natAbs ((magL s.data.toList).getD j 0) (by rw [← (numOk_mag hk).1]; rw [List.getD_eq_getElem?_getD, List.getElem?_eq_getElem hj2]; exact List.getElem_mem _)
          unfold digC at h4
          omega
        rw [show numB s 10 = 0 from if_neg hn]
        refine run ?_
        exact r_end [] []
      · have hd : digC ((magL s.data.toList).getD j 0) := by unfold digC; omega
        have e : 10 * ((valD 0 ((magL s.data.toList).take j) : Nat) : Int) + nth (strL s) (1 + (j : Int)) - 48 = ((valD 0 ((magL s.data.toList).take (j + 1)) : Nat) : Int) := by
          rw [ht, ← hc]; unfold digC at hd; omega
        refine run ?_
        rw [e]
        refine ⟨[], [], Gc.of, fun c hcm => ?_⟩
        rw [List.take_succ_eq_append_getElem hj2, List.mem_append, List.mem_singleton] at hcm
        rcases hcm with hcm | rfl
        · exact hv c hcm
        · rw [List.getD_eq_getElem?_getD, List.getElem?_eq_getElem hj2] at hd; exact hd
    · have hall : (magL s.data.toList).take (s.size - 1) = magL s.data.toList := List.take_of_length_le (by omega)
      rw [hall] at hv ⊢
      have hb := valD_lt _ hv
      have h10 : 10 ^ (magL s.data.toList).length ≤ 10 ^ 10 := Nat.pow_le_pow_right (by decide) (by omega)
      have hb2 : valD 0 (magL s.data.toList) < 10000000000 := Nat.lt_of_lt_of_le hb h10
      have hval : numV s.data.toList = -((valD 0 (magL s.data.toList) : Nat) : Int) := by unfold numV; rw [hng]; rfl
      have hok := numOk_text (s := s) (by rw [hml]; omega : (magL s.data.toList).length ≤ 10)
      rw [hval] at hok
      refine run ?_
      refine r_ifd (fun h3 => ?_) (fun h3 => ?_)
      · have hn : ¬ numOk s 10 := fun hk => h3 (hok.1 hk)
        rw [show numB s 10 = 0 from if_neg hn]
        refine run ?_
        exact r_end [] []
      · have h3 := hok.2 (Decidable.not_not.1 h3)
        rw [show numB s 10 = -((valD 0 (magL s.data.toList) : Nat) : Int) from (if_pos h3).trans hval]
        refine run ?_
        exact r_end [] []
  · skip
    have hng : negC s.data.toList = false := by have := neg_nth s; cases hc : negC s.data.toList with | true => exact absurd (this.1 hc) h | false => rfl
    have hmag : magL s.data.toList = s.data.toList.drop 0 := by unfold magL; rw [hng]; rfl
    have hml : (magL s.data.toList).length = s.size - 0 := by rw [hmag, List.length_drop]; rfl
    have hno : ∀ (j : Nat), j < (magL s.data.toList).length → ((magL s.data.toList).getD j 0).toNat = nth (strL s) (0 + (j : Int)) := by
      intro j hj
      rw [hmag] at hj ⊢
      exact mag_nth s 0 j hj
    refine run ?_
    refine r_ifd (fun h2 => ?_) (fun h2 => ?_)
    · have hn : ¬ numOk s 10 := by
        intro hk
        have h3 := (numOk_mag hk).1
        have h4 := dec_len (numV s.data.toList).natAbs
        have h5 := Lib.nDigits_pos (numV s.data.toList).natAbs
        have h6 := hk.2
        rw [← h3, hml] at h4
        omega
      rw [show numB s 10 = 0 from if_neg hn]
      refine run ?_
      exact r_end [] []
    have h2 := Decidable.not_not.1 h2
    refine run ?_
    refine r_for (s.size - 0) (fun j => [(0, .v (.string s)), (4, .v (.int .i64 0)), (5, .v (.int .i64 ((valD 0 ((magL s.data.toList).take j) : Nat)))), (6, .v (.int .i64 (0 + (j : Int))))]) (fun _ => []) (fun j => ∀ c ∈ (magL s.data.toList).take j, digC c) [] [] (by simp) Gc.of (fun j hj hv => ?_) (fun hv => ?_)
    · have hj2 : j < (magL s.data.toList).length := by omega
      have hc := hno j hj2
      have hb := valD_lt _ hv
      rw [List.length_take] at hb
      have h10 : 10 ^ (min j (magL s.data.toList).length) ≤ 10 ^ 10 := Nat.pow_le_pow_right (by decide) (by omega)
      have hb2 : valD 0 ((magL s.data.toList).take j) < 10000000000 := Nat.lt_of_lt_of_le hb h10
      have ht := take_val (l := magL s.data.toList) hj2
      have hu := bytesP_nth (bytesP_str s) (0 + (j : Int))
      refine run ?_
      refine r_ifd (fun h3 => ?_) (fun h3 => ?_)
      · have hn : ¬ numOk s 10 := by
          intro hk
          have h4 := dec_dig (numV s.data.toList).natAbs ((magL s.data.toList).getD j 0) (by rw [← (numOk_mag hk).1]; rw [List.getD_eq_getElem?_getD, List.getElem?_eq_getElem hj2]; exact List.getElem_mem _)
          unfold digC at h4
          omega
        rw [show numB s 10 = 0 from if_neg hn]
        refine run ?_
        exact r_end [] []
      · have hd : digC ((magL s.data.toList).getD j 0) := by unfold digC; omega
        have e : 10 * ((valD 0 ((magL s.data.toList).take j) : Nat) : Int) + nth (strL s) (0 + (j : Int)) - 48 = ((valD 0 ((magL s.data.toList).take (j + 1)) : Nat) : Int) := by
          rw [ht, ← hc]; unfold digC at hd; omega
        refine run ?_
        rw [e]
        refine ⟨[], [], Gc.of, fun c hcm => ?_⟩
        rw [List.take_succ_eq_append_getElem hj2, List.mem_append, List.mem_singleton] at hcm
        rcases hcm with hcm | rfl
        · exact hv c hcm
        · rw [List.getD_eq_getElem?_getD, List.getElem?_eq_getElem hj2] at hd; exact hd
    · have hall : (magL s.data.toList).take (s.size - 0) = magL s.data.toList := List.take_of_length_le (by omega)
      rw [hall] at hv ⊢
      have hb := valD_lt _ hv
      have h10 : 10 ^ (magL s.data.toList).length ≤ 10 ^ 10 := Nat.pow_le_pow_right (by decide) (by omega)
      have hb2 : valD 0 (magL s.data.toList) < 10000000000 := Nat.lt_of_lt_of_le hb h10
      have hval : numV s.data.toList = ((valD 0 (magL s.data.toList) : Nat) : Int) := by unfold numV; rw [hng]; rfl
      have hok := numOk_text (s := s) (by rw [hml]; omega : (magL s.data.toList).length ≤ 10)
      rw [hval] at hok
      refine run ?_
      refine r_ifd (fun h3 => ?_) (fun h3 => ?_)
      · have hn : ¬ numOk s 10 := fun hk => h3 (hok.1 hk)
        rw [show numB s 10 = 0 from if_neg hn]
        refine run ?_
        exact r_end [] []
      · have h3 := hok.2 (Decidable.not_not.1 h3)
        rw [show numB s 10 = ((valD 0 (magL s.data.toList) : Nat) : Int) from (if_pos h3).trans hval]
        refine run ?_
        exact r_end [] []
instance (s : ByteArray) : Con Tryd.prog F.spec_NumOf [.v (.string s)] (s.size ≤ 100000000000000) (.tup [.v (.int .i64 (numB s 10)), .v (.bool (decide (numOk s 10)))]) [] := ⟨fun h => spec_NumOf s h⟩

end Go.TL
