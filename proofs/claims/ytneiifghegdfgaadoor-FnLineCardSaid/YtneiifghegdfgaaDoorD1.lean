/- Numbers as texts: the reference. No conditions but those that are written. -/
import Derived.Test.YtneiifghegdfgaaDoorNm
import Derived.Test.YtneiifghegdfgaaDoorN1
namespace Go.TL
set_option linter.unusedSimpArgs false
open Go.Proofs Go.RowKit
attribute [local irreducible] wpOpsT wpT EndT Ex.seq Ex.block W
open Go.Lib (itoa decDigits)

attribute [local go_sem] Int.neg_tmod Int.neg_tdiv Int.neg_neg
theorem itoaB_0 : itoaB 0 = ⟨#[48]⟩ := by
  unfold itoaB
  rw [show itoa 0 = decDigits 0 from rfl, decDigits, dif_pos (by decide)]; rfl
theorem cons_str {m : Nat} (out : List UInt8) : strOfT [48 + (m : Int) % 10] ++ (⟨out.toArray⟩ : ByteArray) = ⟨(UInt8.ofNat (48 + m % 10) :: out).toArray⟩ := by
  have e : (48 + (m : Int) % 10).toNat = 48 + m % 10 := by omega
  apply ByteArray.ext
  rw [ByteArray.data_append]
  show #[UInt8.ofNat (48 + (m : Int) % 10).toNat] ++ out.toArray = _
  rw [e]
  simp
/-- The text while it grows. -/
def textI (N : Nat) (s : Nat × List UInt8) : Prop := (s.1 = 0 → s.2 = decDigits N) ∧ (s.1 ≠ 0 → decDigits s.1 ++ s.2 = decDigits N) ∧ s.1 ≤ N ∧ s.2.length ≤ 20
theorem textI_0 {N : Nat} (h : N ≠ 0) : textI N (N, []) := ⟨fun h2 => absurd h2 h, fun _ => by simp, Nat.le_refl _, by simp⟩
theorem dec_20 {N : Nat} (h : N < 18446744073709551616) : (decDigits N).length ≤ 20 := by
  rw [dec_len]
  by_cases h0 : N = 0
  · subst h0; rw [Lib.nDigits_small (by decide)]; decide
  · have := Lib.numDigits_eq N (by omega) h
    split at this <;> omega
theorem textI_s {N : Nat} (hN : N < 18446744073709551616) {s : Nat × List UInt8} (h : textI N s) (h0 : s.1 ≠ 0) : textI N (s.1 / 10, UInt8.ofNat (48 + s.1 % 10) :: s.2) := by
  have h2 := h.2.1 h0
  have hl := dec_20 hN
  have e : decDigits N = (if s.1 < 10 then [] else decDigits (s.1 / 10)) ++ UInt8.ofNat (48 + s.1 % 10) :: s.2 := by
    rw [← h2]
    by_cases hd : s.1 < 10
    · rw [decDigits, dif_pos hd, if_pos hd, Nat.mod_eq_of_lt hd]; rfl
    · rw [decDigits, dif_neg hd, if_neg hd, List.append_assoc]; rfl
  refine ⟨fun hz => ?_, fun hz => ?_, by have := h.2.2.1; dsimp only; omega, ?_⟩
  · dsimp only at hz ⊢
    rw [e, if_pos (by omega)]; rfl
  · dsimp only at hz ⊢
    rw [e, if_neg (by omega)]
  · have := congrArg List.length e
    rw [List.length_append] at this
    dsimp only
    omega
theorem itoaB_n {n : Int} (h : n < 0) : (⟨#[45]⟩ : ByteArray) ++ ⟨(decDigits n.natAbs).toArray⟩ = itoaB n := by
  unfold itoaB
  rw [show itoa n = 45 :: decDigits n.natAbs from if_pos h]
  apply ByteArray.ext
  rw [ByteArray.data_append]
  simp
theorem itoaB_p {n : Int} (h : ¬ n < 0) : (⟨(decDigits n.natAbs).toArray⟩ : ByteArray) = itoaB n := by
  unfold itoaB
  rw [show itoa n = decDigits n.toNat from if_neg h, show n.toNat = n.natAbs by omega]
theorem ba_size (l : List UInt8) : (⟨l.toArray⟩ : ByteArray).size = l.length := by
  show l.toArray.size = _
  simp

set_option maxHeartbeats 4000000 in
theorem spec_TextOf (n : Int) (hpre : -9223372036854775808 ≤ n ∧ n ≤ 9223372036854775807) : CallsT Tryd.prog [] F.spec_TextOf [.v (.int .i64 n)] (.v (.string (itoaB n))) [] := by
  refine fnT C.spec_TextOf ?_
  obtain ⟨h0, h1⟩ := hpre
  refine run ?_
  refine r_ifd (fun h => ?_) (fun h => ?_)
  · subst h
    rw [itoaB_0]
    refine run ?_
    exact r_end [] []
  have hN : n.natAbs < 18446744073709551616 := by omega
  refine run ?_
  rcases (show n < 0 ∨ 0 ≤ n by omega) with hs | hs
  · obtain ⟨N, rfl⟩ : ∃ N : Nat, n = -(N : Int) := ⟨n.natAbs, by omega⟩
    rw [← itoaB_n hs]
    have e0 : (-(N : Int)).natAbs = N := by omega
    rw [e0] at hN ⊢
    refine r_loop_of (σ := Nat × List UInt8) (fun s => [(0, .v (.int .i64 (-(N : Int)))), (3, .v (.string (⟨s.2.toArray⟩))), (4, .v (.int .i64 (-(s.1 : Int))))]) (fun _ => []) (textI N) (fun s => s.1) (N, []) [] [] (textI_0 (by omega)) Gc.of ?_
    rintro ⟨m, out⟩ hv
    have hb := hv.2.2
    dsimp only at hb ⊢
    refine run ?_
    refine r_ifd (fun hz => ?_) (fun hz => ?_)
    · have hz' : m ≠ 0 := by omega
      have hsz := ba_size out
      have hs1 := strOf_size [48 + (m : Int) % 10]
      simp only [List.length_cons, List.length_nil] at hs1
      refine run ?_
      refine r_ifd (fun hd => ?_) (fun hd => ?_)
      · refine run ?_
        rw [cons_str]
        refine ⟨(m / 10, _), [], [], Gc.of, by dsimp only; omega, textI_s hN hv hz'⟩
      · have hd' : (m : Int) % 10 = 0 := by omega
        have hs2 := strOf_size [48 + -((m : Int) % 10)]
        simp only [List.length_cons, List.length_nil] at hs2
        refine run ?_
        have e : strOfT [48 + -((m : Int) % 10)] = strOfT [48 + (m : Int) % 10] := by rw [hd']; rfl
        rw [e, cons_str]
        refine ⟨(m / 10, _), [], [], Gc.of, by dsimp only; omega, textI_s hN hv hz'⟩
    · have hz' : m = 0 := by omega
      have e := hv.1 hz'
      dsimp only at e
      subst e
      have hsz := ba_size (decDigits N)
      have h45 : (⟨#[45]⟩ : ByteArray).size = 1 := rfl
      refine run ?_
      exact r_end [] []
  · obtain ⟨N, rfl⟩ : ∃ N : Nat, n = (N : Int) := ⟨n.natAbs, by omega⟩
    rw [← itoaB_p (show ¬ (N : Int) < 0 by omega)]
    have e0 : (N : Int).natAbs = N := by omega
    rw [e0] at hN ⊢
    refine r_loop_of (σ := Nat × List UInt8) (fun s => [(0, .v (.int .i64 ((N : Int)))), (3, .v (.string (⟨s.2.toArray⟩))), (4, .v (.int .i64 ((s.1 : Int))))]) (fun _ => []) (textI N) (fun s => s.1) (N, []) [] [] (textI_0 (by omega)) Gc.of ?_
    rintro ⟨m, out⟩ hv
    have hb := hv.2.2
    dsimp only at hb ⊢
    refine run ?_
    refine r_ifd (fun hz => ?_) (fun hz => ?_)
    · have hz' : m ≠ 0 := by omega
      have hsz := ba_size out
      have hs1 := strOf_size [48 + (m : Int) % 10]
      simp only [List.length_cons, List.length_nil] at hs1
      refine run ?_
      rw [cons_str]
      refine ⟨(m / 10, _), [], [], Gc.of, by dsimp only; omega, textI_s hN hv hz'⟩
    · have hz' : m = 0 := by omega
      have e := hv.1 hz'
      dsimp only at e
      subst e
      have hsz := ba_size (decDigits N)
      refine run ?_
      exact r_end [] []
instance (n : Int) : Con Tryd.prog F.spec_TextOf [.v (.int .i64 n)] (-9223372036854775808 ≤ n ∧ n ≤ 9223372036854775807) (.v (.string (itoaB n))) [] := ⟨fun h => spec_TextOf n h⟩

end Go.TL
