/- SHA-256: the words of a block, the implementation. No conditions but those that are written. -/
import Derived.Test.YtdnclbghhdflmaaS4
import Derived.Test.YtdnclbghhdflmaaTSlc
import Derived.Test.YtdnclbghhdflmaaTLda
namespace Go.TL
open Go.Proofs Go.RowKit
attribute [local irreducible] wpOpsT wpT EndT Ex.seq Ex.block W

/-- The array while it grows. -/
def arrW (b : List Int) (t : Nat) : List Int := expW b t ++ List.replicate (64 - t) 0
theorem arr_len (b : List Int) {t : Nat} (h : t ≤ 64) : (arrW b t).length = 64 := by unfold arrW; rw [List.length_append, expW_len, List.length_replicate]; omega
theorem arr_set (b : List Int) {t : Nat} (h : t < 64) (x : Int) : (arrW b t).set t x = expW b t ++ [x] ++ List.replicate (63 - t) 0 := by
  unfold arrW
  rw [List.set_append_right _ _ (by rw [expW_len]; exact Nat.le_refl _), expW_len, Nat.sub_self, show 64 - t = (63 - t) + 1 by omega, List.replicate_succ, List.set_cons_zero, List.append_assoc]; rfl
theorem arr_0 (b : List Int) {t : Nat} (h : t < 64) : (arrW b t).set t 0 = arrW b t := by
  rw [arr_set b h]
  unfold arrW
  rw [List.append_assoc, show 64 - t = (63 - t) + 1 by omega, List.replicate_succ]; rfl
theorem arr_step (b : List Int) {t : Nat} (h : t < 16) : (arrW b t).set t (wordL b t) = arrW b (t + 1) := by
  rw [arr_set b (by omega), expW_1 h]; unfold arrW; rw [show 63 - t = 64 - (t + 1) by omega]
theorem arr_next (b : List Int) {t : Nat} (h : ¬ t < 16) (h2 : t < 64) : (arrW b t).set t (nextW (expW b t) t) = arrW b (t + 1) := by
  rw [arr_set b h2, expW_2 h]; unfold arrW; rw [show 63 - t = 64 - (t + 1) by omega]
theorem arr_nth (b : List Int) {t : Nat} {x : Int} (h : x.toNat < t) : nth (arrW b t) x = nth (expW b t) x := by
  unfold nth arrW
  rw [List.getD_eq_getElem?_getD, List.getD_eq_getElem?_getD, List.getElem?_append_left (by rw [expW_len]; exact h)]
theorem nth_set {l : List Int} {i : Nat} (h : i < l.length) (x : Int) : nth (l.set i x) i = x := by
  unfold nth
  rw [Int.toNat_natCast, List.getD_eq_getElem?_getD, List.getElem?_set_self h]; rfl
def partW (b : List Int) (t : Int) : Nat → Int
  | 0 => 0
  | j + 1 => partW b t j * 256 + nth b (4 * t + j)
theorem part_4 (b : List Int) (t : Int) : partW b t 4 = wordL b t := by
  simp only [partW, wordL, Int.cast_ofNat_Int, Int.add_zero]
  omega

def z64 : List Int := List.replicate 64 0

set_option maxHeartbeats 4000000 in
theorem impl_expanded (k : Nat) (b : List Int) (hpre : b.length = 64 ∧ Bytes b) : CallsT Try.prog [] F.impl_expanded [.sl false k b.length 1 (rowT u8C b)] (.agg (rowT i64C (expW b 64))) [] := by
  refine fnT C.impl_expanded ?_
  obtain ⟨hb1, hb2⟩ := hpre
  refine r_seq ?_
  refine r_region ?_
  refine r_do (t := .ptr 0 [] 0) (S' := [⟨0, true, rowT i64C z64⟩]) ?_ (hs := by kernel_rfl)
  refine r_ops ?_
  refine x_seq_n ?_
  refine r_seq ?_
  refine r_region ?_
  refine r_by (t := .agg (rowT i64C z64)) (S' := [⟨0, true, rowT i64C z64⟩]) (by kernel_rfl) ?_
  refine r_do (t := .ptr 1 [] 0) (S' := [⟨0, true, rowT i64C z64⟩, ⟨0, true, rowT i64C z64⟩]) ?_ (hs := by kernel_rfl)
  refine r_do0 (t := .dead) (S' := [⟨0, true, rowT i64C z64⟩, ⟨0, true, rowT i64C z64⟩]) ?_ (hs := by kernel_rfl)
  refine run ?_
  refine r_for 16 (fun i => [(0, .sl false k b.length 1 (rowT u8C b)), (2, .ptr 0 [] 0), (3, .ptr 1 [] 0), (13, .v (.int .i64 i))]) (fun i => [⟨0, true, rowT i64C z64⟩, ⟨0, true, rowT i64C (arrW b i)⟩]) (fun _ => True) [0, 1] [] trivial Gc.of (fun i hi _ => ?_) (fun _ => ?_)
  · have e0 : rowT i64C (arrW b i) = rowT i64C ((arrW b i).set i (partW b i 0)) := by rw [show partW b i 0 = 0 from rfl, arr_0 b (t := i) (by omega)]
    have hl := arr_len b (t := i) (by omega)
    have hc := cutL_len b (lo := 4 * i) (hi := 4 * i + 4) (by omega)
    refine run ?_
    rw [e0]
    refine r_for 4 (fun j => [(0, .sl false k b.length 1 (rowT u8C b)), (2, .ptr 0 [] 0), (3, .ptr 1 [] 0), (4, .v (.int .i64 i)), (13, .v (.int .i64 i)), (22, .sl false k (cutL b (4 * i) (4 * i + 4)).length 1 (rowT u8C (cutL b (4 * i) (4 * i + 4)))), (23, .v (.int .i64 ((cutL b (4 * i) (4 * i + 4)).length))), (24, .v (.int .i64 j))]) (fun j => [⟨0, true, rowT i64C z64⟩, ⟨0, true, rowT i64C ((arrW b i).set i (partW b i j))⟩]) (fun j => 0 ≤ partW b i j ∧ partW b i j < 2 ^ (8 * j)) [0, 1] [] (by simp [partW]) Gc.of (fun j hj hv => ?_) (fun _ => ?_)
    · have hp : partW b i j < 16777216 := Int.lt_of_lt_of_le hv.2 (match j, hj with | 0, _ => by decide | 1, _ => by decide | 2, _ => by decide | 3, _ => by decide)
      have hcj : nth (cutL b (4 * i) (4 * i + 4)) j = nth b (4 * i + j) := nth_cut (by omega) (by omega)
      have hbj := hb2.nth (4 * i + j)
      rw [← hcj] at hbj
      have hsl : ((arrW b i).set i (partW b i j)).length = 64 := by rw [List.length_set]; exact hl
      have hn := nth_set (l := arrW b i) (i := i) (by omega) (partW b i j)
      have ho := or_add 8 (x := partW b i j) (y := nth (cutL b (4 * i) (4 * i + 4)) j) (by decide) hv.1 (by omega) hbj
      simp only [Int.reducePow] at ho
      rw [hcj] at ho
      refine run ?_
      refine r_sta (enc := i64C) _ i (partW b i (j + 1)) ?_ (hy := by set_option linter.unusedSimpArgs false in simp only [hn, hcj, ho, go_sem, ↓reduceIte, Nat.reduceEqDiff, Nat.reduceMul, Nat.reduceAdd, Nat.reduceSub, Nat.reduceLT, Nat.reduceGT, Nat.reduceLeDiff, Nat.reduceBEq, Int.reduceLT, Int.reduceLE, Int.reduceNe, Int.reduceEq, Int.reduceToNat, Int.reduceAdd, Int.reduceSub, Int.reduceMul, Int.reduceNeg, Nat.reducePow, Int.reducePow, Nat.reduceSubDiff, decide_true, decide_false, reduceCtorEq, or_self, or_false, false_or, or_true, true_or, if_false, gt_iff_lt, ge_iff_le, ne_eq, not_true_eq_false, not_false_eq_true, and_self, beq_self_eq_true, Bool.false_eq_true]; rfl)
      rw [List.set_set]
      refine run ?_
      have hpn : 0 ≤ partW b i (j + 1) ∧ partW b i (j + 1) < 2 ^ (8 * (j + 1)) := by
        show 0 ≤ partW b i j * 256 + nth b (4 * i + j) ∧ partW b i j * 256 + nth b (4 * i + j) < 2 ^ (8 * (j + 1))
        rw [hcj] at hbj
        have hv2 := hv.2
        have hv1 := hv.1
        clear ho hn hsl
        rcases (show j = 0 ∨ j = 1 ∨ j = 2 ∨ j = 3 by omega) with rfl | rfl | rfl | rfl <;> simp only [Nat.reduceMul, Nat.reduceAdd, Int.reducePow] at hv2 ⊢ <;> omega
      exact ⟨[0, 1], [], Gc.of, hpn⟩
    · have hset := arr_step b (t := i) hi
      rw [part_4, hset]
      refine run ?_
      exact ⟨[0, 1], [], Gc.of, trivial⟩
  · refine run ?_
    refine r_for 48 (fun i => [(2, .ptr 0 [] 0), (3, .ptr 1 [] 0), (7, .v (.int .i64 ((16 + i : Nat))))]) (fun i => [⟨0, true, rowT i64C z64⟩, ⟨0, true, rowT i64C (arrW b (16 + i))⟩]) (fun _ => True) [0, 1] [] trivial Gc.of (fun i hi _ => ?_) (fun _ => ?_)
    · have hw := nth_word (expW_word hb2 (16 + i))
      have h2 := hw (16 + i - 2)
      have h7 := hw (16 + i - 7)
      have h15 := hw (16 + i - 15)
      have h16 := hw (16 + i - 16)
      have hs0 := s0_b h15
      have hs1 := s1_b h2
      have a2 := arr_nth b (t := 16 + i) (x := 16 + i - 2) (by omega)
      have a7 := arr_nth b (t := 16 + i) (x := 16 + i - 7) (by omega)
      have a15 := arr_nth b (t := 16 + i) (x := 16 + i - 15) (by omega)
      have a16 := arr_nth b (t := 16 + i) (x := 16 + i - 16) (by omega)
      rw [← a15] at hs0 h15
      rw [← a2] at hs1 h2
      rw [← a7] at h7
      rw [← a16] at h16
      unfold Word at h2 h7 h15 h16
      simp only [Word, s0I, s1I] at hs0 hs1
      have hl := arr_len b (t := 16 + i) (by omega)
      have e := arr_next b (t := 16 + i) (by omega) (by omega)
      simp only [nextW, s0I, s1I, Int.natCast_add, Int.cast_ofNat_Int, ← a2, ← a7, ← a15, ← a16] at e
      refine run ?_
      refine r_sta (enc := i64C) _ (16 + i) _ ?_
      rw [e]
      refine run ?_
      rw [show (16 + (i : Int) + 1) = 16 + ((i : Int) + 1) by omega]
      exact ⟨[0, 1], [], Gc.of, trivial⟩
    · have hl : arrW b (16 + 48) = expW b 64 := by unfold arrW; simp
      have hz := expW_len b 64
      rw [hl]
      refine run ?_
      refine r_stl (l0 := z64) ?_ (hl := hz) (h0 := List.length_replicate)
      refine run ?_
      exact r_end [] [] (ts := [.agg (rowT i64C (expW b 64))]) (hr := by set_option linter.unusedSimpArgs false in simp (disch := exact hz) only [go_sem, ↓reduceIte, Nat.reduceEqDiff, Nat.reduceMul, Nat.reduceAdd, Nat.reduceSub, Nat.reduceLT, Nat.reduceGT, Nat.reduceLeDiff, Nat.reduceBEq, Int.reduceLT, Int.reduceLE, Int.reduceNe, Int.reduceEq, Int.reduceToNat, Int.reduceAdd, Int.reduceSub, Int.reduceMul, Int.reduceNeg, Nat.reducePow, Int.reducePow, Nat.reduceSubDiff, decide_true, decide_false, reduceCtorEq, or_self, or_false, false_or, or_true, true_or, if_false, gt_iff_lt, ge_iff_le, ne_eq, not_true_eq_false, not_false_eq_true, and_self, beq_self_eq_true, Bool.false_eq_true])
instance (k : Nat) (b : List Int) : Con Try.prog F.impl_expanded [.sl false k b.length 1 (rowT u8C b)] (b.length = 64 ∧ Bytes b) (.agg (rowT i64C (expW b 64))) [] := ⟨fun h => impl_expanded k b h⟩

end Go.TL
