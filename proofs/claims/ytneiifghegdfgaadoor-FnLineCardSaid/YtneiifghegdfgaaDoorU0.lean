/- Texts of hex digits are read, both sides. No conditions but those that are written. -/
import Derived.Test.YtneiifghegdfgaaDoorF0
import Derived.Test.YtneiifghegdfgaaDoorH1
import Derived.Test.YtneiifghegdfgaaDoorTDr3
namespace Go.TL
set_option linter.unusedSimpArgs false
open Go.Proofs Go.RowKit
attribute [local irreducible] wpOpsT wpT EndT Ex.seq Ex.block W

/-- What a digit is worth; -1: it is none. -/
def hvI (c : Int) : Int := findBy (fun x => decide (x = c)) (strL hexD)
theorem hexD_len : (strL hexD).length = 16 := rfl
theorem hvI_b (c : Int) : -1 ≤ hvI c ∧ hvI c < 16 := by
  have := findBy_b (fun x => decide (x = c)) (strL hexD)
  rw [hexD_len] at this
  exact this
theorem hvI_at {c : Int} {i : Nat} (hi : i < 16) (h : nth (strL hexD) (i : Nat) = c) (hv : ∀ j, j < i → ¬ nth (strL hexD) (j : Nat) = c) : hvI c = i :=
  findBy_at (by rw [hexD_len]; exact hi) (decide_eq_true h) fun j hj hh => hv j hj (of_decide_eq_true hh)
theorem hvI_no {c : Int} (hv : ∀ j, j < 16 → ¬ nth (strL hexD) (j : Nat) = c) : hvI c = -1 :=
  findBy_no fun j hj hh => hv j (by rw [hexD_len] at hj; exact hj) (of_decide_eq_true hh)

set_option maxHeartbeats 4000000 in
theorem impl_hexValue (c : Int) : CallsT Tryd.prog [] F.impl_hexValue [.v (.int .u8 c)] (.v (.int .i64 (hvI c))) [] := by
  refine fnT C.impl_hexValue ?_
  refine run ?_
  refine r_for 16 (fun i => [(0, .v (.int .u8 c)), (4, .v (.int .i64 i))]) (fun _ => []) (fun i => ∀ j, j < i → ¬ nth (strL hexD) (j : Nat) = c) [] [] all_0 Gc.of (fun i hi hv => ?_) (fun hv => ?_)
  · refine run ?_
    refine r_ifd (fun h => ?_) (fun h => ?_)
    · rw [hvI_at hi h hv]
      refine run ?_
      exact r_end [] []
    · refine run ?_
      exact ⟨[], [], Gc.of, all_step hv h⟩
  · rw [hvI_no hv]
    refine run ?_
    exact r_end [] []
instance (c : Int) : Con Tryd.prog F.impl_hexValue [.v (.int .u8 c)] True (.v (.int .i64 (hvI c))) [] := ⟨fun _ => impl_hexValue c⟩

set_option maxHeartbeats 4000000 in
theorem spec_l2Value (c : Int) : CallsT Tryd.prog [] F.spec_l2Value [.v (.int .u8 c)] (.v (.int .i64 (hvI c))) [] := by
  refine fnT C.spec_l2Value ?_
  refine run ?_
  refine r_for 16 (fun i => [(0, .v (.int .u8 c)), (3, .v (.int .i64 i))]) (fun _ => []) (fun i => ∀ j, j < i → ¬ nth (strL hexD) (j : Nat) = c) [] [] all_0 Gc.of (fun i hi hv => ?_) (fun hv => ?_)
  · have hm : dig16 ((i : Int) % 16) = nth (strL hexD) (i : Nat) := by rw [show (i : Int) % 16 = i by omega]; rfl
    refine run ?_
    rw [hm]
    refine r_ifd (fun h => ?_) (fun h => ?_)
    · rw [hvI_at hi h hv]
      refine run ?_
      exact r_end [] []
    · refine run ?_
      exact ⟨[], [], Gc.of, all_step hv h⟩
  · rw [hvI_no hv]
    refine run ?_
    exact r_end [] []
instance (c : Int) : Con Tryd.prog F.spec_l2Value [.v (.int .u8 c)] True (.v (.int .i64 (hvI c))) [] := ⟨fun _ => spec_l2Value c⟩

/-- A text of digits, two a byte. -/
def hexAt (l : List Int) (j : Nat) : Int := 16 * hvI (nth l (2 * (j : Int))) + hvI (nth l (2 * (j : Int) + 1))
def hexGood (l : List Int) (j : Nat) : Prop := 0 ≤ hvI (nth l (2 * (j : Int))) ∧ 0 ≤ hvI (nth l (2 * (j : Int) + 1))
theorem hexAt_n (l : List Int) (j : Nat) : hexAt l j = 16 * hvI (nth l ((2 * j : Nat) : Int)) + hvI (nth l ((2 * j + 1 : Nat) : Int)) := by
  rw [show ((2 * j : Nat) : Int) = 2 * (j : Int) by omega, show ((2 * j + 1 : Nat) : Int) = 2 * (j : Int) + 1 by omega]; rfl
theorem hexGood_n (l : List Int) (j : Nat) : hexGood l j ↔ 0 ≤ hvI (nth l ((2 * j : Nat) : Int)) ∧ 0 ≤ hvI (nth l ((2 * j + 1 : Nat) : Int)) := by
  rw [show ((2 * j : Nat) : Int) = 2 * (j : Int) by omega, show ((2 * j + 1 : Nat) : Int) = 2 * (j : Int) + 1 by omega]; exact Iff.rfl
instance (l : List Int) (j : Nat) : Decidable (hexGood l j) := inferInstanceAs (Decidable (_ ∧ _))
def unhexOk (s : ByteArray) : Prop := ¬ s.size % 2 = 1 ∧ s.size ≤ 8000 ∧ ∀ j, j < s.size / 2 → hexGood (strL s) j
instance (s : ByteArray) : Decidable (unhexOk s) := inferInstanceAs (Decidable (_ ∧ _))
def unhexL (l : List Int) (n : Nat) : List Int := (List.range n).map (hexAt l)
def unhexV (s : ByteArray) : List Int := if unhexOk s then unhexL (strL s) (s.size / 2) else []
theorem unhexL_s (l : List Int) (n : Nat) : unhexL l n ++ [hexAt l n] = unhexL l (n + 1) := by simp [unhexL, List.range_succ]
theorem unhexL_len (l : List Int) (n : Nat) : (unhexL l n).length = n := by simp [unhexL]
theorem unhexV_len (s : ByteArray) : (unhexV s).length ≤ 4000 := by
  unfold unhexV
  split
  · rename_i h; rw [unhexL_len]; have := h.2.1; omega
  · exact Nat.zero_le _

set_option maxHeartbeats 4000000 in
theorem impl_FromHex (s : ByteArray) (hpre : s.size ≤ 100000000000) : CallsT Tryd.prog [] F.impl_FromHex [.v (.string s)] (.tup [.sl false 0 (unhexV s).length 1 (rowT u8C (unhexV s)), .v (.bool (decide (unhexOk s)))]) [] := by
  refine fnT C.impl_FromHex ?_
  refine run ?_
  refine r_ifd (fun h => ?_) (fun h => ?_)
  · have hn : ¬ unhexOk s := fun hh => by have h1 := hh.1; have h2 := hh.2.1; omega
    rw [unhexV, if_neg hn, decide_eq_false hn]
    refine run ?_
    exact r_end [] []
  obtain ⟨n, hn⟩ : ∃ n, s.size = 2 * n := ⟨s.size / 2, by omega⟩
  refine run ?_
  refine r_for n (fun i => [(0, .v (.string s)), (4, .ref 0 [] 0 (unhexL (strL s) i).length), (5, .v (.int .i64 (2 * (i : Int))))]) (fun i => [⟨1, true, rowT u8C (unhexL (strL s) i)⟩]) (fun i => ∀ j, j < i → hexGood (strL s) j) [0] [] all_0 Gc.of (fun i hi hv => ?_) (fun hv => ?_)
  · have b1 := hvI_b (nth (strL s) (2 * (i : Int)))
    have b2 := hvI_b (nth (strL s) (2 * (i : Int) + 1))
    refine runC ?_
    refine r_callc ?_ (hp := dr_still)
    refine runC ?_
    refine r_callc ?_ (hp := dr_still)
    refine run ?_
    refine r_ifd (fun h2 => ?_) (fun h2 => ?_)
    · have hno : ¬ unhexOk s := fun hh => by
        have := hh.2.2 i (by omega)
        unfold hexGood at this
        omega
      rw [unhexV, if_neg hno, decide_eq_false hno]
      refine run ?_
      exact r_end [] []
    · have hg : hexGood (strL s) i := by unfold hexGood; omega
      have hul := unhexL_len (strL s) i
      rw [← unhexL_s, hexAt]
      refine run ?_
      exact ⟨[2], [], Gc.of, all_step hv hg⟩
  · have hok : unhexOk s := ⟨by omega, by omega, fun j hj => hv j (by omega)⟩
    rw [unhexV, if_pos hok, decide_eq_true hok, show s.size / 2 = n by omega]
    refine run ?_
    exact r_end [] [0]
instance (s : ByteArray) : Con Tryd.prog F.impl_FromHex [.v (.string s)] (s.size ≤ 100000000000) (.tup [.sl false 0 (unhexV s).length 1 (rowT u8C (unhexV s)), .v (.bool (decide (unhexOk s)))]) [] := ⟨fun h => impl_FromHex s h⟩

set_option maxHeartbeats 4000000 in
theorem spec_FromHex (s : ByteArray) (hpre : s.size ≤ 100000000000) : CallsT Tryd.prog [] F.spec_FromHex [.v (.string s)] (.tup [.sl false 0 (unhexV s).length 1 (rowT u8C (unhexV s)), .v (.bool (decide (unhexOk s)))]) [] := by
  refine fnT C.spec_FromHex ?_
  refine run ?_
  refine r_ifd (fun h => ?_) (fun h => ?_)
  · have hn : ¬ unhexOk s := fun hh => by have h1 := hh.1; have h2 := hh.2.1; omega
    rw [unhexV, if_neg hn, decide_eq_false hn]
    refine run ?_
    exact r_end [] [0]
  obtain ⟨n, hn⟩ : ∃ n, s.size = 2 * n := ⟨s.size / 2, by omega⟩
  refine run ?_
  refine r_for n (fun i => [(0, .v (.string s)), (4, .ref 0 [] 0 (unhexL (strL s) i).length), (5, .v (.int .i64 (2 * (i : Int))))]) (fun i => [⟨1, true, rowT u8C (unhexL (strL s) i)⟩]) (fun i => ∀ j, j < i → hexGood (strL s) j) [0] [] all_0 Gc.of (fun i hi hv => ?_) (fun hv => ?_)
  · have b1 := hvI_b (nth (strL s) (2 * (i : Int)))
    have b2 := hvI_b (nth (strL s) (2 * (i : Int) + 1))
    refine runC ?_
    refine r_callc ?_ (hp := dr_still)
    refine runC ?_
    refine r_callc ?_ (hp := dr_still)
    refine run ?_
    refine r_ifd (fun h2 => ?_) (fun h2 => ?_)
    · have hno : ¬ unhexOk s := fun hh => by
        have := hh.2.2 i (by omega)
        unfold hexGood at this
        omega
      rw [unhexV, if_neg hno, decide_eq_false hno]
      refine run ?_
      exact r_end [] [1]
    · have hg : hexGood (strL s) i := by unfold hexGood; omega
      have hul := unhexL_len (strL s) i
      rw [← unhexL_s, hexAt]
      refine run ?_
      exact ⟨[2], [], Gc.of, all_step hv hg⟩
  · have hok : unhexOk s := ⟨by omega, by omega, fun j hj => hv j (by omega)⟩
    rw [unhexV, if_pos hok, decide_eq_true hok, show s.size / 2 = n by omega]
    refine run ?_
    exact r_end [] [0]
instance (s : ByteArray) : Con Tryd.prog F.spec_FromHex [.v (.string s)] (s.size ≤ 100000000000) (.tup [.sl false 0 (unhexV s).length 1 (rowT u8C (unhexV s)), .v (.bool (decide (unhexOk s)))]) [] := ⟨fun h => spec_FromHex s h⟩

end Go.TL
