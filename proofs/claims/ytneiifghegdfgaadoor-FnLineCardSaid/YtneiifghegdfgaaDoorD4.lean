/- Lines of deeds: both sides, the law. No conditions but those that are written. -/
import Derived.Test.YtneiifghegdfgaaDoorD3
namespace Go.TL
set_option linter.unusedSimpArgs false
open Go.Proofs Go.RowKit
attribute [local irreducible] wpOpsT wpT EndT Ex.seq Ex.block W

def spB : ByteArray := ⟨#[32]⟩
/-- A deed's line while it grows. -/
def lineI (k a t r p : Int) (s : ByteArray) (i : Nat) : ByteArray := ((strL (formB k)).take i).foldl (fun out c => out ++ (spB ++ fieldB a t r p s c)) (nameB k)
def lineB (k a t r p : Int) (s : ByteArray) : ByteArray := if deedP k a t r p s then lineI k a t r p s (formB k).size else ⟨#[]⟩
theorem lineI_s (k a t r p : Int) (s : ByteArray) {i : Nat} (h : i < (formB k).size) : lineI k a t r p s i ++ (spB ++ fieldB a t r p s (nth (strL (formB k)) i)) = lineI k a t r p s (i + 1) := by
  unfold lineI
  rw [take_nth (by rw [strL_length]; exact h), List.foldl_append]; rfl
theorem itoaB_size {n : Int} (h : I64 n) : (itoaB n).size ≤ 21 := by
  unfold I64 at h
  show (Lib.itoa n).toArray.size ≤ 21
  have := dec_20 (N := n.natAbs) (by omega)
  have e := (itoa_parts n).2
  rw [← e] at this
  unfold magL at this
  split at this
  · rw [List.length_drop] at this; simp; omega
  · simp; omega
theorem hexB_size (l : List Int) : (hexB l).size ≤ 8000 := by
  unfold hexB
  split
  · decide
  · rw [strOf_size, hexL_len]; omega
theorem fieldB_size {a t r p : Int} (s : ByteArray) (c : Int) (h : I64 a ∧ I64 t ∧ I64 r ∧ I64 p) : (fieldB a t r p s c).size ≤ 8000 := by
  have h1 := itoaB_size h.1
  have h2 := itoaB_size h.2.1
  have h3 := itoaB_size h.2.2.1
  have h4 := itoaB_size h.2.2.2
  have h5 := hexB_size (strL s)
  unfold fieldB
  (repeat' split) <;> first | omega | (show 1 ≤ 8000; decide)
theorem sp_size : (⟨#[32]⟩ : ByteArray).size = 1 := rfl
theorem lineI_size {k a t r p : Int} (s : ByteArray) (h : I64 a ∧ I64 t ∧ I64 r ∧ I64 p) : ∀ i, i ≤ (formB k).size → (lineI k a t r p s i).size ≤ 8 + 8001 * i
  | 0, _ => nameB_size k
  | i + 1, hi => by
    have h1 := lineI_size (k := k) s h i (by omega)
    rw [← lineI_s k a t r p s (by omega), ByteArray.size_append, ByteArray.size_append]
    have h2 := fieldB_size s (nth (strL (formB k)) i) h
    have h3 : spB.size = 1 := rfl
    omega
theorem deedP_k {k a t r p : Int} {s : ByteArray} (h : deedP k a t r p s) : 1 ≤ k ∧ k ≤ 14 := by
  unfold deedP at h
  (repeat' split at h) <;> first | exact h.elim | omega
theorem deedP_s {k a t r p : Int} {s : ByteArray} (h : deedP k a t r p s) : (s.size : Int) ≤ 1000 := by
  unfold deedP at h
  have h0 : (⟨#[]⟩ : ByteArray).size = 0 := rfl
  (repeat' split at h) <;> first | exact h.elim | exact h.2.2.2.1 | (have e : s = ⟨#[]⟩ := by simp_all) <;> rw [e, h0]; decide
theorem hex_empty {s : ByteArray} (h : (s.size : Int) ≤ 1000) : hexB (strL s) = ⟨#[]⟩ ↔ s = ⟨#[]⟩ := by
  have e : hexB (strL s) = strOfT (hexL (strL s)) := if_neg (by rw [strL_length]; omega)
  rw [e]
  constructor
  · intro h2
    have := strOf_size (hexL (strL s))
    rw [h2, hexL_len, strL_length] at this
    have h3 : (⟨#[]⟩ : ByteArray).size = 0 := rfl
    exact (ba_size0 s).1 (by omega)
  · rintro rfl; rfl

set_option maxHeartbeats 4000000 in
theorem impl_DeedLine (k a t r p : Int) (s : ByteArray) (hpre : I64 a ∧ I64 t ∧ I64 r ∧ I64 p) : CallsT Tryd.prog [] F.impl_DeedLine [.agg [.v (.int .i64 k), .v (.int .i64 a), .v (.int .i64 t), .v (.int .i64 r), .v (.int .i64 p), .v (.string s)]] (.tup [.v (.string (lineB k a t r p s)), .v (.bool (decide (deedP k a t r p s)))]) [] := by
  refine fnT C.impl_DeedLine ?_
  have hf4 := formB_size k
  obtain ⟨ha, ht, hr, hp⟩ := hpre
  have hpre : I64 a ∧ I64 t ∧ I64 r ∧ I64 p := ⟨ha, ht, hr, hp⟩
  refine run ?_
  refine r_ifd (fun h => ?_) (fun h => ?_)
  · rw [show lineB k a t r p s = ⟨#[]⟩ from if_neg h]
    refine run ?_
    exact r_end [] []
  have h := Decidable.not_not.1 h
  have hk := deedP_k h
  have hs := deedP_s h
  have hw := words_len
  have e0 : nth wordsB (k - 1) = lineI k a t r p s 0 := (if_pos hk).symm
  rw [show lineB k a t r p s = lineI k a t r p s (formB k).size from if_pos h]
  refine run ?_
  rw [e0]
  refine r_for (formB k).size (fun i => [(1, .ptr 0 [] 0), (4, .v (.string (lineI k a t r p s i))), (5, .v (.string (formB k))), (20, .v (.int .i64 ((formB k).size))), (21, .v (.int .i64 i))]) (fun _ => [⟨0, true, [.v (.int .i64 k), .v (.int .i64 a), .v (.int .i64 t), .v (.int .i64 r), .v (.int .i64 p), .v (.string s)]⟩]) (fun _ => True) [0] [] trivial Gc.of (fun i hi _ => ?_) (fun _ => ?_)
  · have h1 := lineI_size (k := k) s hpre i (by omega)
    have h2 := fieldB_size s (nth (strL (formB k)) i) hpre
    have h3 := sp_size
    have h4 : (⟨#[32]⟩ ++ fieldB a t r p s (nth (strL (formB k)) i) : ByteArray).size = 1 + (fieldB a t r p s (nth (strL (formB k)) i)).size := ByteArray.size_append ..
    refine run ?_
    have e := lineI_s k a t r p s hi
    unfold spB at e
    rw [e]
    exact ⟨[0], [], Gc.of, trivial⟩
  · refine run ?_
    exact r_end [] []
instance (k a t r p : Int) (s : ByteArray) : Con Tryd.prog F.impl_DeedLine [.agg [.v (.int .i64 k), .v (.int .i64 a), .v (.int .i64 t), .v (.int .i64 r), .v (.int .i64 p), .v (.string s)]] (I64 a ∧ I64 t ∧ I64 r ∧ I64 p) (.tup [.v (.string (lineB k a t r p s)), .v (.bool (decide (deedP k a t r p s)))]) [] := ⟨fun h => impl_DeedLine k a t r p s h⟩

set_option maxHeartbeats 4000000 in
theorem spec_DeedLine (k a t r p : Int) (s : ByteArray) (hpre : I64 a ∧ I64 t ∧ I64 r ∧ I64 p) : CallsT Tryd.prog [] F.spec_DeedLine [.agg [.v (.int .i64 k), .v (.int .i64 a), .v (.int .i64 t), .v (.int .i64 r), .v (.int .i64 p), .v (.string s)]] (.tup [.v (.string (lineB k a t r p s)), .v (.bool (decide (deedP k a t r p s)))]) [] := by
  refine fnT C.spec_DeedLine ?_
  have hf4 := formB_size k
  refine run ?_
  refine r_ifd (fun h => ?_) (fun h => ?_)
  · rw [show lineB k a t r p s = ⟨#[]⟩ from if_neg h]
    refine run ?_
    exact r_end [] []
  have h := Decidable.not_not.1 h
  have hk := deedP_k h
  have hs := deedP_s h
  have hx := hex_empty hs
  have hb := bytesP_str s
  have hsl := strL_length s
  have hi64 := hpre
  unfold I64 at hi64
  rw [show lineB k a t r p s = lineI k a t r p s (formB k).size from if_pos h]
  refine run ?_
  refine r_for (formB k).size (fun i => [(1, .ptr 0 [] 0), (4, .v (.string (lineI k a t r p s i))), (5, .v (.string (formB k))), (6, .v (.int .i64 i))]) (fun _ => [⟨0, true, [.v (.int .i64 k), .v (.int .i64 a), .v (.int .i64 t), .v (.int .i64 r), .v (.int .i64 p), .v (.string s)]⟩]) (fun _ => True) [0] [] trivial Gc.of (fun i hi _ => ?_) (fun _ => ?_)
  · have h1 := lineI_size (k := k) s hpre i (by omega)
    have h2 := fieldB_size s (nth (strL (formB k)) i) hpre
    have h3 := sp_size
    have h4 : (lineI k a t r p s i ++ ⟨#[32]⟩ : ByteArray).size = (lineI k a t r p s i).size + 1 := ByteArray.size_append ..
    have hc := formB_mem k i hi
    have e := lineI_s k a t r p s hi
    unfold spB at e
    rw [← ByteArray.append_assoc] at e
    have hxs := hexB_size (strL s)
    have e1 := itoaB_size hpre.1
    have e2 := itoaB_size hpre.2.1
    have e3 := itoaB_size hpre.2.2.1
    have e4 := itoaB_size hpre.2.2.2
    have h45 : (⟨#[45]⟩ : ByteArray).size = 1 := rfl
    refine run ?_
    refine r_ifd (fun hc1 => ?_) (fun hc1 => ?_)
    · rw [show fieldB a t r p s (nth (strL (formB k)) i) = itoaB a from if_pos hc1] at e
      refine run ?_
      rw [e]
      exact ⟨[0], [], Gc.of, trivial⟩
    refine run ?_
    refine r_ifd (fun hc2 => ?_) (fun hc2 => ?_)
    · rw [show fieldB a t r p s (nth (strL (formB k)) i) = itoaB t by unfold fieldB; rw [if_neg hc1, if_pos hc2]] at e
      refine run ?_
      rw [e]
      exact ⟨[0], [], Gc.of, trivial⟩
    refine run ?_
    refine r_ifd (fun hc3 => ?_) (fun hc3 => ?_)
    · rw [show fieldB a t r p s (nth (strL (formB k)) i) = itoaB r by unfold fieldB; rw [if_neg hc1, if_neg hc2, if_pos hc3]] at e
      refine run ?_
      rw [e]
      exact ⟨[0], [], Gc.of, trivial⟩
    refine run ?_
    refine r_ifd (fun hc4 => ?_) (fun hc4 => ?_)
    · rw [show fieldB a t r p s (nth (strL (formB k)) i) = itoaB p by unfold fieldB; rw [if_neg hc1, if_neg hc2, if_neg hc3, if_pos hc4]] at e
      refine run ?_
      rw [e]
      exact ⟨[0], [], Gc.of, trivial⟩
    have hc5 : nth (strL (formB k)) i = 120 := by unfold formC at hc; omega
    have ef : fieldB a t r p s (nth (strL (formB k)) i) = if s = ⟨#[]⟩ then ⟨#[45]⟩ else hexB (strL s) := by unfold fieldB; rw [if_neg hc1, if_neg hc2, if_neg hc3, if_neg hc4]
    refine run ?_
    refine r_ifd (fun hs0 => ?_) (fun hs0 => ?_)
    · rw [ef, if_pos (hx.1 hs0)] at e
      refine run ?_
      rw [e]
      exact ⟨[0], [], Gc.of, trivial⟩
    · rw [ef, if_neg (fun hh => hs0 (hx.2 hh))] at e
      refine run ?_
      rw [e]
      exact ⟨[0], [], Gc.of, trivial⟩
  · refine run ?_
    exact r_end [] []
instance (k a t r p : Int) (s : ByteArray) : Con Tryd.prog F.spec_DeedLine [.agg [.v (.int .i64 k), .v (.int .i64 a), .v (.int .i64 t), .v (.int .i64 r), .v (.int .i64 p), .v (.string s)]] (I64 a ∧ I64 t ∧ I64 r ∧ I64 p) (.tup [.v (.string (lineB k a t r p s)), .v (.bool (decide (deedP k a t r p s)))]) [] := ⟨fun h => spec_DeedLine k a t r p s h⟩

end Go.TL
