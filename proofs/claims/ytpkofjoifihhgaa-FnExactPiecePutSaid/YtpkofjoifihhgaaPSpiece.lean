/- The reference's numbers, texts and pieces. No conditions but those that are written. -/
import Derived.Test.YtpkofjoifihhgaaPPiece
namespace Go.TL
open Go.Proofs Go.RowKit

theorem sPutNum (x : Int) (h0 : 0 ≤ x) (h1 : x < 2 ^ 63) : CallsT Try.prog [] 26 [.v (.int .i64 x)] (.ref 0 [] 0 (putNumL 10 x).length) [⟨1, true, rowT u8C (putNumL 10 x)⟩] := by
  refine fnT Try.func26 ?_
  refine run ?_
  refine r_ifd ?_ ?_
  · intro h; omega
  intro h
  refine run ?_
  refine r_loop_of (σ := Int × List Int × Nat) (fun s => [(0, .v (.int .i64 s.1)), (3, .ref 0 [] 0 s.2.1.length)]) (fun s => [⟨1, true, rowT u8C s.2.1⟩]) (fun s => 0 ≤ s.1 ∧ s.2.1 ++ putNumL (s.2.2 + 1) s.1 = putNumL 10 x ∧ s.1 < 2 ^ (7 * s.2.2 + 7) ∧ s.2.1.length + s.2.2 = 9 ∧ s.1 < 2 ^ 63) (fun s => s.1.toNat) (x, [], 9) [0] ?_ Gc.of ?_
  · exact ⟨h0, by simp, by dsimp only; omega, by simp, h1⟩
  rintro ⟨x, l, k⟩ ⟨hx, hl, hk, hn, hx2⟩
  dsimp only at hx hl hk hn hx2 ⊢
  refine run ?_
  refine r_ifd ?_ ?_
  · intro h
    refine run ?_
    have e1 : wrap64 (wrap64 (x.tmod 128 + 128) % 256) = x % 128 + 128 := by
      rw [Int.tmod_eq_emod_of_nonneg hx, wrap64_in (x := x % 128 + 128) (by omega), wrap64_in (by omega)]
      omega
    have e1 : wrap64 (x.tmod 128 + 128) % 256 = x % 128 + 128 := by
      rw [Int.tmod_eq_emod_of_nonneg hx, wrap64_in (x := x % 128 + 128) (by omega)]
      omega
    rw [e1]
    refine r_app u8E l [x % 128 + 128] (by simp; omega) ?_
    refine run ?_
    rw [show wrap64 (x.tdiv 128) = x / 128 by rw [Int.tdiv_eq_ediv_of_nonneg hx, wrap64_in (by omega)]]
    obtain ⟨k, rfl⟩ : ∃ j, k = j + 1 := ⟨k - 1, by cases k with | zero => simp at hk; omega | succ k => rfl⟩
    refine ⟨(x / 128, l ++ [x % 128 + 128], k), [2], Gc.of, ?_, ?_⟩
    · dsimp only; omega
    · refine ⟨?_, ?_, ?_, ?_, ?_⟩
      · dsimp only; omega
      · dsimp only
        rw [← hl]
        simp [putNumL, h]
      · dsimp only
        rw [show 7 * (k + 1) + 7 = 7 * k + 7 + 7 by omega, Int.pow_add] at hk
        omega
      · simp; omega
      · dsimp only; omega
  · intro h
    refine run ?_
    rw [show x % 256 = x by omega]
    refine r_app u8E l [x] (by simp; omega) ?_
    refine run ?_
    have e := hl.symm
    rw [show putNumL (k + 1) x = [x] by simp [putNumL, h]] at e
    rw [e]
    exact r_end [2]

theorem sPutText (s : ByteArray) (h : s.size ≤ 3000) : CallsT Try.prog [] 27 [.v (.string s)] (.ref 0 [] 0 (textL s).length) [⟨1, true, rowT u8C (textL s)⟩] := by
  refine fnT Try.func27 ?_
  refine run ?_
  refine r_ifd (fun hh => ?_) (fun hh => ?_)
  · omega
  refine run ?_
  refine r_callp 0 (sPutNum (s.size : Int) (by omega) (by omega)) ?_
  refine run ?_
  have hl := putNumL_len 10 s.size
  have hl2 := strL_length s
  refine r_app u8E (putNumL 10 s.size) (strL s) (by omega) ?_
  refine run ?_
  exact r_end [2]

theorem sPiecePut (r i : Int) (s : ByteArray) : CallsT Try.prog [] 8 [.v (.int .i64 r), .v (.int .i64 i), .v (.string s)] (.v (.string (pieceB r i s))) [] := by
  refine fnT Try.func8 ?_
  refine run ?_
  refine r_callp 0 (sIn _ _ _) ?_
  refine run ?_
  refine r_guard (fun h1 => ?_) (fun h1 => ?_)
  · rw [show pieceB r i s = ⟨#[]⟩ from if_neg fun h => h1 h.1]
    refine run ?_
    exact r_end []
  have h1 := Decidable.not_not.1 h1
  refine run ?_
  refine r_callp 0 (sIn _ _ _) ?_
  refine run ?_
  refine r_guard (fun h2 => ?_) (fun h2 => ?_)
  · rw [show pieceB r i s = ⟨#[]⟩ from if_neg fun h => h2 h.2.1]
    refine run ?_
    exact r_end []
  have h2 := Decidable.not_not.1 h2
  refine run ?_
  refine r_callp 0 (sIn _ _ _) ?_
  refine run ?_
  refine r_ifd (fun h3 => ?_) (fun h3 => ?_)
  · rw [show pieceB r i s = ⟨#[]⟩ from if_neg fun h => h3 h.2.2]
    refine run ?_
    exact r_end []
  have h3 := Decidable.not_not.1 h3
  have e1 := putNumL_len 10 r
  have e3 := putNumL_len 10 i
  have e2 : (textL s).length ≤ 30 := by
    have := putNumL_len 10 s.size
    have := strL_length s
    simp only [textL, List.length_append]
    omega
  rw [show pieceB r i s = strOfT ((([2] ++ putNumL 10 r) ++ putNumL 10 i) ++ textL s) from (if_pos ⟨h1, h2, h3⟩).trans (by simp [putNumL])]
  refine run ?_
  refine r_callp 0 (sPutNum r (by omega) (by omega)) ?_
  refine run ?_
  refine r_app u8E [2] (putNumL 10 r) (by simp; omega) ?_
  refine run ?_
  refine r_callp 0 (sPutNum i (by omega) (by omega)) ?_
  refine run ?_
  refine r_app u8E ([2] ++ putNumL 10 r) (putNumL 10 i) (by simp; omega) ?_
  refine run ?_
  refine r_callp 0 (sPutText s (by omega)) ?_
  refine run ?_
  refine r_app u8E (([2] ++ putNumL 10 r) ++ putNumL 10 i) (textL s) (by simp; omega) ?_
  refine r_conv (conv_bs bs43 u9 rfl) ?_
  refine run ?_
  exact r_end []

end Go.TL
