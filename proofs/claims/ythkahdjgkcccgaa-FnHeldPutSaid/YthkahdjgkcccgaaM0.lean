/- Ints and texts that a law marks; rows of ints of one's own. No conditions but those that are written. -/
import Derived.Test.YthkahdjgkcccgaaE1
import Derived.Test.YthkahdjgkcccgaaTNst
namespace Go.TL
set_option linter.unusedSimpArgs false
open Go.Proofs Go.RowKit
attribute [local irreducible] wpOpsT wpT EndT Ex.seq Ex.block W

theorem toIntSO (k : Nat) (l : List Int) (hb1 : l.length * 8 ≤ 140737488351232) : CallsT Try.prog [] F.laws_toIntS [.sl false k l.length 1 (rowT i64C l)] (.ref 0 [] 0 l.length) [⟨1, true, rowT i64C l⟩] := by
  refine fnT C.laws_toIntS ?_
  refine run ?_
  rw [List.length_replicate]
  refine r_for l.length (fun i => [(0, .sl false k l.length 1 (rowT i64C l)), (3, .ref 0 [] 0 l.length), (4, .v (.int .i64 i))]) (fun i => [⟨1, true, rowT i64C (l.take i ++ (List.replicate l.length 0).drop i)⟩]) (fun _ => True) [0] [] trivial Gc.of (fun i hi _ => ?_) (fun _ => ?_)
  · refine run ?_
    refine r_sto (enc := i64C) _ i (nth l i) ?_
    rw [set_mix hi (by simp)]
    refine run ?_
    exact ⟨[0], [], Gc.of, trivial⟩
  · rw [List.take_length, List.drop_of_length_le (by simp), List.append_nil]
    refine run ?_
    exact r_end [0] []

/-- The numbers that are written, from k on. -/
def marksI (k : Int) (n : Nat) : List Int := (List.range n).map fun (i : Nat) => k + (i : Int)
theorem marksI_len (k : Int) (n : Nat) : (marksI k n).length = n := by simp [marksI]
theorem marksI_s (k : Int) (n : Nat) : marksI k (n + 1) = marksI k n ++ [k + n] := by simp [marksI, List.range_succ]
theorem marksI_nth (k : Int) {n i : Nat} (h : i < n) : nth (marksI k n) (i : Nat) = k + i := by
  rw [nth_nat (by rw [marksI_len]; exact h)]; simp [marksI]

theorem set_mix0 {l : List Int} (k : Int) {i : Nat} (h : i < l.length) : (marksI k i ++ l.drop i).set i (k + i) = marksI k (i + 1) ++ l.drop (i + 1) := by
  rw [List.set_append_right _ _ (by rw [marksI_len]; exact Nat.le_refl _), marksI_len, Nat.sub_self, List.drop_eq_getElem_cons h, List.set_cons_zero, marksI_s, List.append_assoc]; rfl

theorem markIntS1 (l : List Int) (k : Int) (hk : 0 ≤ k) (hk2 : k + l.length ≤ 1000000000) : CallsT Try.prog [⟨1, true, rowT i64C l⟩] F.laws_markIntS [.ref 0 [] 0 l.length, .v (.int .i64 k)] (.v (.int .i64 (k + l.length))) [⟨1, true, rowT i64C (marksI k l.length)⟩] := by
  refine fnT C.laws_markIntS ?_
  refine run ?_
  refine r_for l.length (fun i => [(0, .ref 0 [] 0 l.length), (1, .v (.int .i64 (k + i))), (5, .v (.int .i64 i))]) (fun i => [⟨1, true, rowT i64C (marksI k i ++ l.drop i)⟩]) (fun _ => True) [0] [] trivial Gc.of (fun i hi _ => ?_) (fun _ => ?_)
  · have hml := marksI_len k i
    refine run ?_
    refine r_sto (enc := i64C) _ i (k + i) ?_
    rw [set_mix0 k hi]
    refine run ?_
    exact ⟨[0], [], Gc.of, trivial⟩
  · rw [List.drop_of_length_le (Nat.le_refl _), List.append_nil]
    refine run ?_
    exact r_end [0] []

set_option maxHeartbeats 4000000 in
theorem laws_markIntS (q : Nat) (k : Int) : CallsT Try.prog [] F.laws_markIntS [.sl false q 0 1 [], .v (.int .i64 k)] (.v (.int .i64 k)) [] := by
  refine fnT C.laws_markIntS ?_
  refine run ?_
  refine r_for 0 (fun i => [(0, .sl false q 0 1 []), (1, .v (.int .i64 k)), (5, .v (.int .i64 i))]) (fun _ => []) (fun _ => True) [] [] trivial Gc.of (fun i hi _ => absurd hi (Nat.not_lt_zero _)) (fun _ => ?_)
  refine run ?_
  exact r_end [] []
instance (q : Nat) (k : Int) : Con Try.prog F.laws_markIntS [.sl false q 0 1 [], .v (.int .i64 k)] True (.v (.int .i64 k)) [] := ⟨fun _ => laws_markIntS q k⟩

set_option maxHeartbeats 4000000 in
theorem laws_heldIntS (q n : Nat) (k : Int) (hpre : 0 ≤ k ∧ k + n ≤ 1000000000) : CallsT Try.prog [] F.laws_heldIntS [.sl false q (marksI k n).length 1 (rowT i64C (marksI k n)), .v (.int .i64 k)] (.v (.int .i64 (k + n))) [] := by
  refine fnT C.laws_heldIntS ?_
  have hl := marksI_len k n
  refine run ?_
  refine r_for n (fun i => [(0, .sl false q (marksI k n).length 1 (rowT i64C (marksI k n))), (1, .v (.int .i64 (k + i))), (5, .v (.int .i64 i))]) (fun _ => []) (fun _ => True) [] [] trivial Gc.of (fun i hi _ => ?_) (fun _ => ?_)
  · have hv := marksI_nth k hi
    refine run ?_
    exact ⟨[], [], Gc.of, trivial⟩
  · refine run ?_
    exact r_end [] []
instance (q n : Nat) (k : Int) : Con Try.prog F.laws_heldIntS [.sl false q (marksI k n).length 1 (rowT i64C (marksI k n)), .v (.int .i64 k)] (0 ≤ k ∧ k + n ≤ 1000000000) (.v (.int .i64 (k + n))) [] := ⟨fun h => laws_heldIntS q n k h⟩

/-- A number's digits. -/
def digT (k : Nat) : ByteArray := if _h : k = 0 then ⟨#[]⟩ else digT (k / 10) ++ strOfT [48 + ((k % 10 : Nat) : Int)]
theorem digT_pos {k : Nat} (h : k ≠ 0) : digT k = digT (k / 10) ++ strOfT [48 + ((k % 10 : Nat) : Int)] := by rw [digT, dif_neg h]
theorem digT_size (k : Nat) : (digT k).size ≤ k := by
  induction k using Nat.strongRecOn with
  | _ k ih =>
    by_cases h : k = 0
    · subst h; rw [digT, dif_pos rfl]; exact Nat.le_refl _
    · rw [digT_pos h, ByteArray.size_append]
      have := ih (k / 10) (by omega)
      have h1 : (strOfT [48 + ((k % 10 : Nat) : Int)]).size = 1 := rfl
      rw [h1]
      omega
def mT (k : Int) : ByteArray := ⟨#[109]⟩ ++ digT k.toNat

set_option maxHeartbeats 4000000 in
theorem laws_markText (k : Int) (hpre : 0 < k ∧ k ≤ 1000000000) : CallsT Try.prog [] F.laws_markText [.v (.int .i64 k)] (.v (.string (mT k))) [] := by
  refine fnT C.laws_markText ?_
  obtain ⟨h0, h1⟩ := hpre
  refine run ?_
  obtain ⟨n, rfl⟩ := Int.eq_ofNat_of_zero_le (show 0 ≤ k by omega)
  have hsz := digT_size n
  refine r_loop_of (fun (x : Nat × ByteArray) => [(0, .v (.int .i64 x.1)), (3, .v (.string x.2))]) (fun _ => []) (fun x => digT x.1 ++ x.2 = digT n ∧ x.1 ≤ n) (fun x => x.1) (n, ⟨#[]⟩) [] [] ⟨ByteArray.append_empty, Nat.le_refl _⟩ Gc.of (fun x hx => ?_)
  obtain ⟨hx1, hx2⟩ := hx
  obtain ⟨m, out⟩ := x
  dsimp only at hx1 hx2
  have hos : out.size ≤ 1000000000 := by
    have := congrArg ByteArray.size hx1
    rw [ByteArray.size_append] at this
    omega
  dsimp only
  refine run ?_
  refine r_ifd (fun h => ?_) (fun h => ?_)
  · have hm : m ≠ 0 := by omega
    have e1 : ((m : Int) % 10) = ((m % 10 : Nat) : Int) := by omega
    have e2 : ((m : Int) / 10) = ((m / 10 : Nat) : Int) := by omega
    have z1 : (strOfT [48 + (m : Int) % 10]).size = 1 := rfl
    refine run ?_
    refine ⟨(m / 10, strOfT [48 + (m : Int) % 10] ++ out), [], [], Gc.of, by dsimp only; omega, ?_, by dsimp only; omega⟩
    dsimp only
    rw [← hx1, digT_pos hm, e1, ByteArray.append_assoc]
  · have hm : m = 0 := by omega
    subst hm
    have z1 : (⟨#[109]⟩ : ByteArray).size = 1 := rfl
    refine run ?_
    refine r_endS ?_
    rw [digT, dif_pos rfl] at hx1
    rw [mT, Int.toNat_natCast, ← hx1]
    rfl
instance (k : Int) : Con Try.prog F.laws_markText [.v (.int .i64 k)] (0 < k ∧ k ≤ 1000000000) (.v (.string (mT k))) [] := ⟨fun h => laws_markText k h⟩

end Go.TL
