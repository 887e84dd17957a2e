/- Texts joined. No conditions but those that are written. -/
import Derived.Test.YtkecbkljfpebhaaJY1Y3
/- Parts of a stable sort: two blocks in order are merged. No conditions but those that are written. -/
namespace Go.TL
set_option linter.unusedSimpArgs false
open Go.Proofs Go.RowKit
attribute [local irreducible] wpOpsT wpT EndT Ex.seq Ex.block W

theorem nth_X {P X Y Q : List ShiftV} {i : Nat} (h : i < X.length) : nth (P ++ X ++ Y ++ Q) ((P.length : Int) + (i : Nat)) = nth X (i : Nat) := by
  rw [show (P.length : Int) + (i : Nat) = ((P.length + i : Nat) : Int) by omega, nth_nat (by simp only [List.length_append]; omega), nth_nat h]
  rw [List.getElem_append_left (by simp only [List.length_append]; omega), List.getElem_append_left (by simp only [List.length_append]; omega), List.getElem_append_right (by omega)]
  simp only [Nat.add_sub_cancel_left]
theorem nth_Y {P X Y Q : List ShiftV} {i : Nat} (h : i < Y.length) : nth (P ++ X ++ Y ++ Q) ((P.length : Int) + X.length + (i : Nat)) = nth Y (i : Nat) := by
  have := nth_X (P := P ++ X) (X := Y) (Y := Q) (Q := []) h
  rw [List.append_nil, List.length_append] at this
  rw [← this]
  congr 1

theorem half_b {x y : Int} (h : x < y) : x ≤ (x + y) / 2 ∧ (x + y) / 2 < y := by omega

theorem srt_id {X : List ShiftV} (h : ascP X) : srt X = X := (srt_of h (sameK_refl X)).symm
/-- One that goes behind the lesser ones. -/
theorem merge1 {Y : List ShiftV} {x : ShiftV} {u : Nat} (hY : ascP Y) (hu : u ≤ Y.length) (h1 : u = 0 ∨ (nth Y ((u : Int) - 1)).at' < x.at') (h2 : u = Y.length ∨ x.at' ≤ (nth Y (u : Nat)).at') : Y.take u ++ x :: Y.drop u = srt ([x] ++ Y) := by
  have a1 : ∀ y ∈ Y.take u, y.at' < x.at' := fun y hy => by
    obtain ⟨j, hj1, hj2, rfl⟩ := mem_take hy
    rcases h1 with h | h
    · omega
    · have := asc_nth hY (show j ≤ u - 1 by omega) (by omega)
      rw [show ((u - 1 : Nat) : Int) = (u : Int) - 1 by omega] at this
      omega
  have a2 : ∀ y ∈ Y.drop u, x.at' ≤ y.at' := fun y hy => by
    obtain ⟨j, hj1, hj2, rfl⟩ := mem_drop hy
    rcases h2 with h | h
    · omega
    · have := asc_nth hY hj1 hj2
      omega
  refine srt_of ?_ ?_
  · refine asc_app (asc_take hY u) (List.pairwise_cons.2 ⟨a2, asc_drop hY u⟩) fun y hy z hz => ?_
    have h3 := a1 y hy
    rcases List.mem_cons.1 hz with rfl | hz
    · omega
    · have := a2 z hz
      omega
  · have e : [x] ++ Y = ([x] ++ Y.take u) ++ Y.drop u := by rw [List.append_assoc, List.take_append_drop]
    have e2 : Y.take u ++ x :: Y.drop u = (Y.take u ++ [x]) ++ Y.drop u := by rw [List.append_assoc]; rfl
    rw [e, e2]
    exact sameK_app (sameK_xch fun z hz y hy => by rw [List.mem_singleton] at hz; subst hz; exact a1 y hy) (sameK_refl _)
theorem merge2 {X : List ShiftV} {y : ShiftV} {u : Nat} (hX : ascP X) (hu : u ≤ X.length) (h1 : u = 0 ∨ (nth X ((u : Int) - 1)).at' ≤ y.at') (h2 : u = X.length ∨ y.at' < (nth X (u : Nat)).at') : X.take u ++ y :: X.drop u = srt (X ++ [y]) := by
  rw [srt_s, srt_id hX]
  refine (ins_place (fun z hz => ?_) (fun z hz => ?_)).symm
  · obtain ⟨j, hj1, hj2, rfl⟩ := mem_take hz
    rcases h1 with h | h
    · omega
    · have := asc_nth hX (show j ≤ u - 1 by omega) (by omega)
      rw [show ((u - 1 : Nat) : Int) = (u : Int) - 1 by omega] at this
      omega
  · obtain ⟨j, hj1, hj2, rfl⟩ := mem_drop hz
    rcases h2 with h | h
    · omega
    · have := asc_nth hX hj1 hj2
      omega
theorem fwd_next {P S R : List ShiftV} {x : ShiftV} {k : Nat} (hk : k < S.length) : nth (P ++ (S.take k ++ x :: S.drop k) ++ R) ((P.length + k + 1 : Nat) : Int) = nth S (k : Nat) := by
  have e : P ++ (S.take k ++ x :: S.drop k) ++ R = (P ++ S.take k ++ [x]) ++ nth S (k : Nat) :: (S.drop (k + 1) ++ R) := by
    rw [List.drop_eq_getElem_cons hk, nth_nat hk]
    simp only [List.append_assoc, List.cons_append, List.nil_append]
  rw [e]
  exact nth_midX (by simp only [List.length_append, List.length_take, List.length_cons, List.length_nil]; omega)
theorem fwd_swp {P S R : List ShiftV} {x : ShiftV} {k : Nat} (hk : k < S.length) : swp (P ++ (S.take k ++ x :: S.drop k) ++ R) (P.length + k) (P.length + k + 1) = P ++ (S.take (k + 1) ++ x :: S.drop (k + 1)) ++ R := by
  have e : P ++ (S.take k ++ x :: S.drop k) ++ R = (P ++ S.take k) ++ x :: ([] ++ nth S (k : Nat) :: (S.drop (k + 1) ++ R)) := by
    rw [List.drop_eq_getElem_cons hk, nth_nat hk]
    simp only [List.append_assoc, List.cons_append, List.nil_append]
  rw [e, swp_mid (by rw [List.length_append, List.length_take]; omega) (by rw [List.length_append, List.length_take, List.length_nil]; omega)]
  rw [take_nth hk]
  simp only [List.append_assoc, List.cons_append, List.nil_append]

theorem wrap_u64Y {x : Int} (h : 0 ≤ x ∧ x < 18446744073709551616) : IntKind.u64.wrap x = x := by
  simp only [IntKind.wrap, IntKind.bits, IntKind.signed]
  simp
  omega
theorem shr_u64Y (x : Int) : shrI .u64 x 1 = x / 2 := by
  unfold shrI
  rw [show min (Int.toNat 1) IntKind.u64.bits = 1 from rfl]
  exact Int.fdiv_eq_ediv_of_nonneg _ (by decide)
attribute [local go_sem] get_sh0 get_sh1 wrap_u64Y shr_u64Y

set_option linter.unusedSimpArgs false in
set_option maxHeartbeats 8000000 in
theorem symMerge1 (P : List ShiftV) (x : ShiftV) (Y Q : List ShiftV) (hy : 0 < Y.length) (hY : ascP Y) (hl : (P ++ [x] ++ Y ++ Q).length ≤ 100000) {a m b : Int} (ha : a = P.length) (hm : m = (P.length : Int) + 1) (hb : b = (P.length : Int) + 1 + Y.length) : CallsT Try.prog [⟨2, true, rowT shiftC (P ++ [x] ++ Y ++ Q)⟩] F.slices_symMergeCmpFunc_setting [.ref 0 [] 0 (P ++ [x] ++ Y ++ Q).length, .v (.int .i64 a), .v (.int .i64 m), .v (.int .i64 b), .v (.func (.func 93) #[] #[])] (.tup []) [⟨2, true, rowT shiftC (P ++ srt ([x] ++ Y) ++ Q)⟩] := by
  have hlen := len4 P [x] Y Q
  have hnx : nth (P ++ [x] ++ Y ++ Q) a = x := by
    have := nth_X (P := P) (X := [x]) (Y := Y) (Q := Q) (i := 0) (by simp)
    rw [ha]
    rw [show (P.length : Int) + ((0 : Nat) : Int) = P.length by omega] at this
    exact this
  have hny : ∀ i : Int, m ≤ i → i < b → nth (P ++ [x] ++ Y ++ Q) i = nth Y (i - m) := fun i h1 h2 => by
    have := nth_Y (P := P) (X := [x]) (Y := Y) (Q := Q) (i := (i - m).toNat) (by omega)
    rw [show (P.length : Int) + ([x] : List ShiftV).length + ((i - m).toNat : Nat) = i by simp only [List.length_cons, List.length_nil]; omega, show (((i - m).toNat : Nat) : Int) = i - m by omega] at this
    exact this
  simp only [List.length_cons, List.length_nil] at hlen
  generalize hN : (P ++ [x] ++ Y ++ Q).length = N at *
  refine fnT C.slices_symMergeCmpFunc_setting ?_
  refine run ?_
  generalize hL : P ++ [x] ++ Y ++ Q = L at *
  refine r_loop_of (σ := Int × Int) (fun s => [(0, .ref 0 [] 0 N), (1, .v (.int .i64 a)), (4, .v (.func (.func 93) #[] #[])), (10, .v (.int .i64 s.1)), (11, .v (.int .i64 s.2))]) (fun s => [⟨2, true, rowT shiftC L⟩]) (fun s => m ≤ s.1 ∧ s.1 ≤ s.2 ∧ s.2 ≤ b ∧ (s.1 = m ∨ (nth Y (s.1 - 1 - m)).at' < x.at') ∧ (s.2 = b ∨ x.at' ≤ (nth Y (s.2 - m)).at')) (fun s => (s.2 - s.1).toNat) (m, b) [0] [] ⟨by dsimp only; omega, by dsimp only; omega, by dsimp only; omega, .inl rfl, .inl rfl⟩ Gc.of ?_
  rintro ⟨i, j⟩ ⟨h1, h2, h3, h4, h5⟩
  dsimp only at h1 h2 h3 h4 h5 ⊢
  refine run ?_
  refine r_ifd (fun hc => ?_) (fun hc => ?_)
  · have hh := half_b hc
    have f1 := hny ((i + j) / 2) (by omega) (by omega)
    have hcv := cmpV_lt (x := (nth Y ((i + j) / 2 - m)).at') (y := x.at')
    refine runC ?_
    refine r_fv ?_
    refine run ?_
    refine r_ifd (fun h6 => ?_) (fun h6 => ?_)
    · simp only [nth_toNat, f1, hnx] at h6
      refine run ?_
      refine ⟨((i + j) / 2 + 1, j), [0], [], Gc.of, by dsimp only; omega, by dsimp only; omega, by dsimp only; omega, by dsimp only; omega, .inr ?_, h5⟩
      dsimp only
      rw [show (i + j) / 2 + 1 - 1 - m = (i + j) / 2 - m by omega]
      exact hcv.1 h6
    · simp only [nth_toNat, f1, hnx] at h6
      refine run ?_
      exact ⟨(i, (i + j) / 2), [0], [], Gc.of, by dsimp only; omega, by dsimp only; omega, by dsimp only; omega, by dsimp only; omega, h4, .inr (Int.not_lt.1 fun hh => h6 (hcv.2 hh))⟩
  · obtain rfl : i = j := by omega
    obtain ⟨u, rfl⟩ : ∃ u : Nat, i = m + (u : Nat) := ⟨(i - m).toNat, by omega⟩
    have hu : u ≤ Y.length := by omega
    have hmg := merge1 (x := x) hY hu (by rcases h4 with h | h; exact .inl (by omega); rw [show m + (u : Int) - 1 - m = (u : Int) - 1 by omega] at h; exact .inr h) (by rcases h5 with h | h; exact .inl (by omega); rw [show m + (u : Int) - m = (u : Nat) by omega] at h; exact .inr h)
    refine run ?_
    refine r_loop_of (σ := Nat) (fun w => [(0, .ref 0 [] 0 N), (10, .v (.int .i64 (m + (u : Nat)))), (13, .v (.int .i64 (a + (w : Nat))))]) (fun w => [⟨2, true, rowT shiftC (P ++ (Y.take w ++ x :: Y.drop w) ++ Q)⟩]) (fun w => w ≤ u) (fun w => u - w) 0 [0] [] (Nat.zero_le _) (Gc.of (hs := ?_)) ?_
    · rw [← hL, show P ++ [x] ++ Y ++ Q = P ++ (Y.take 0 ++ x :: Y.drop 0) ++ Q by simp only [List.take_zero, List.drop_zero, List.append_assoc, List.nil_append, List.cons_append]]
      (simp (disch := omega) only [go_sem, ↓reduceIte, Nat.reduceEqDiff, Nat.reduceMul, Nat.reduceAdd, Nat.reduceSub, Nat.reduceLT, Nat.reduceGT, Nat.reduceLeDiff, Nat.reduceBEq, Int.reduceLT, Int.reduceLE, Int.reduceNe, Int.reduceEq, Int.reduceToNat, Int.reduceAdd, Int.reduceSub, Int.reduceMul, Int.reduceNeg, Nat.reducePow, Int.reducePow, Nat.reduceSubDiff, decide_true, decide_false, reduceCtorEq, or_self, or_false, false_or, or_true, true_or, if_false, gt_iff_lt, ge_iff_le, ne_eq, not_true_eq_false, not_false_eq_true, and_self, beq_self_eq_true, Bool.false_eq_true, List.append_assoc]; exact WkS.refl _)
    intro w hw
    refine run ?_
    refine r_ifd (fun hc2 => ?_) (fun hc2 => ?_)
    · have hwl : w < Y.length := by omega
      have hll : (P ++ (Y.take w ++ x :: Y.drop w) ++ Q).length = N := by simp only [List.length_append, List.length_cons, List.length_take, List.length_drop]; omega
      have e1 := ins_nth (P := P) (S := Y) (R := Q) (x := x) (k := w) (by omega)
      have e2 := fwd_next (P := P) (S := Y) (R := Q) (x := x) (k := w) hwl
      have e3 := fwd_swp (P := P) (S := Y) (R := Q) (x := x) (k := w) hwl
      generalize P ++ (Y.take w ++ x :: Y.drop w) ++ Q = L2 at *
      have g1 : nth L2 (a + (w : Nat)) = x := by rw [← e1]; congr 1; omega
      have g2 : nth L2 (a + (w : Nat) + 1) = nth Y (w : Nat) := by rw [← e2]; congr 1; omega
      have e4 : (L2.set (P.length + w) (nth Y (w : Nat))).set (P.length + w + 1) x = P ++ (Y.take (w + 1) ++ x :: Y.drop (w + 1)) ++ Q := by rw [← e3, swp, e2, e1]
      refine run ?_
      refine r_sto (enc := shiftC) _ (P.length + w) _ ?_
      refine run ?_
      refine r_sto (enc := shiftC) _ (P.length + w + 1) _ ?_
      simp only [nth_toNat, g1, g2, e4]
      refine run ?_
      exact ⟨w + 1, [0], [], Gc.of, by omega, by omega⟩
    · obtain rfl : w = u := by omega
      rw [hmg]
      refine run ?_
      exact r_end [0] []

set_option linter.unusedSimpArgs false in
set_option maxHeartbeats 8000000 in
theorem symMerge2 (P X : List ShiftV) (y : ShiftV) (Q : List ShiftV) (hx : 1 < X.length) (hX : ascP X) (hl : (P ++ X ++ [y] ++ Q).length ≤ 100000) {a m b : Int} (ha : a = P.length) (hm : m = (P.length : Int) + X.length) (hb : b = (P.length : Int) + X.length + 1) : CallsT Try.prog [⟨2, true, rowT shiftC (P ++ X ++ [y] ++ Q)⟩] F.slices_symMergeCmpFunc_setting [.ref 0 [] 0 (P ++ X ++ [y] ++ Q).length, .v (.int .i64 a), .v (.int .i64 m), .v (.int .i64 b), .v (.func (.func 93) #[] #[])] (.tup []) [⟨2, true, rowT shiftC (P ++ srt (X ++ [y]) ++ Q)⟩] := by
  have hlen := len4 P X [y] Q
  have hny : nth (P ++ X ++ [y] ++ Q) m = y := by
    have := nth_Y (P := P) (X := X) (Y := [y]) (Q := Q) (i := 0) (by simp)
    rw [hm]
    rw [show (P.length : Int) + X.length + ((0 : Nat) : Int) = P.length + X.length by omega] at this
    exact this
  have hnx : ∀ i : Int, a ≤ i → i < m → nth (P ++ X ++ [y] ++ Q) i = nth X (i - a) := fun i h1 h2 => by
    have := nth_X (P := P) (X := X) (Y := [y]) (Q := Q) (i := (i - a).toNat) (by omega)
    rw [show (P.length : Int) + ((i - a).toNat : Nat) = i by omega, show (((i - a).toNat : Nat) : Int) = i - a by omega] at this
    exact this
  simp only [List.length_cons, List.length_nil] at hlen
  generalize hN : (P ++ X ++ [y] ++ Q).length = N at *
  refine fnT C.slices_symMergeCmpFunc_setting ?_
  refine run ?_
  generalize hL : P ++ X ++ [y] ++ Q = L at *
  refine r_loop_of (σ := Int × Int) (fun s => [(0, .ref 0 [] 0 N), (1, .v (.int .i64 a)), (2, .v (.int .i64 m)), (4, .v (.func (.func 93) #[] #[])), (14, .v (.int .i64 s.1)), (15, .v (.int .i64 s.2))]) (fun s => [⟨2, true, rowT shiftC L⟩]) (fun s => a ≤ s.1 ∧ s.1 ≤ s.2 ∧ s.2 ≤ m ∧ (s.1 = a ∨ (nth X (s.1 - 1 - a)).at' ≤ y.at') ∧ (s.2 = m ∨ y.at' < (nth X (s.2 - a)).at')) (fun s => (s.2 - s.1).toNat) (a, m) [0] [] ⟨by dsimp only; omega, by dsimp only; omega, by dsimp only; omega, .inl rfl, .inl rfl⟩ Gc.of ?_
  rintro ⟨i, j⟩ ⟨h1, h2, h3, h4, h5⟩
  dsimp only at h1 h2 h3 h4 h5 ⊢
  refine run ?_
  refine r_ifd (fun hc => ?_) (fun hc => ?_)
  · have hh := half_b hc
    have f1 := hnx ((i + j) / 2) (by omega) (by omega)
    have hcv := cmpV_lt (x := y.at') (y := (nth X ((i + j) / 2 - a)).at')
    refine runC ?_
    refine r_fv ?_
    refine run ?_
    refine r_ifd (fun h6 => ?_) (fun h6 => ?_)
    · simp only [nth_toNat, f1, hny] at h6
      refine run ?_
      refine ⟨((i + j) / 2 + 1, j), [0], [], Gc.of, by dsimp only; omega, by dsimp only; omega, by dsimp only; omega, by dsimp only; omega, .inr ?_, h5⟩
      dsimp only
      rw [show (i + j) / 2 + 1 - 1 - a = (i + j) / 2 - a by omega]
      exact Int.not_lt.1 fun hh => h6 (hcv.2 hh)
    · simp only [nth_toNat, f1, hny] at h6
      refine run ?_
      exact ⟨(i, (i + j) / 2), [0], [], Gc.of, by dsimp only; omega, by dsimp only; omega, by dsimp only; omega, by dsimp only; omega, h4, .inr (hcv.1 (Decidable.not_not.1 h6))⟩
  · obtain rfl : i = j := by omega
    obtain ⟨u, rfl⟩ : ∃ u : Nat, i = a + (u : Nat) := ⟨(i - a).toNat, by omega⟩
    have hu : u ≤ X.length := by omega
    have hmg := merge2 (y := y) hX hu (by rcases h4 with h | h; exact .inl (by omega); rw [show a + (u : Int) - 1 - a = (u : Int) - 1 by omega] at h; exact .inr h) (by rcases h5 with h | h; exact .inl (by omega); rw [show a + (u : Int) - a = (u : Nat) by omega] at h; exact .inr h)
    refine run ?_
    refine r_loop_of (σ := Nat) (fun w => [(0, .ref 0 [] 0 N), (14, .v (.int .i64 (a + (u : Nat)))), (17, .v (.int .i64 (a + (w : Nat))))]) (fun w => [⟨2, true, rowT shiftC (P ++ (X.take w ++ y :: X.drop w) ++ Q)⟩]) (fun w => u ≤ w ∧ w ≤ X.length) (fun w => w - u) X.length [0] [] ⟨hu, Nat.le_refl _⟩ (Gc.of (hs := ?_)) ?_
    · rw [← hL, show P ++ X ++ [y] ++ Q = P ++ (X.take X.length ++ y :: X.drop X.length) ++ Q by simp only [List.take_length, List.drop_length, List.append_assoc]]
      (simp (disch := omega) only [go_sem, ↓reduceIte, Nat.reduceEqDiff, Nat.reduceMul, Nat.reduceAdd, Nat.reduceSub, Nat.reduceLT, Nat.reduceGT, Nat.reduceLeDiff, Nat.reduceBEq, Int.reduceLT, Int.reduceLE, Int.reduceNe, Int.reduceEq, Int.reduceToNat, Int.reduceAdd, Int.reduceSub, Int.reduceMul, Int.reduceNeg, Nat.reducePow, Int.reducePow, Nat.reduceSubDiff, decide_true, decide_false, reduceCtorEq, or_self, or_false, false_or, or_true, true_or, if_false, gt_iff_lt, ge_iff_le, ne_eq, not_true_eq_false, not_false_eq_true, and_self, beq_self_eq_true, Bool.false_eq_true, List.append_assoc]; exact WkS.refl _)
    rintro w ⟨hw1, hw2⟩
    refine run ?_
    refine r_ifd (fun hc2 => ?_) (fun hc2 => ?_)
    · obtain ⟨k, rfl⟩ : ∃ k, w = k + 1 := ⟨w - 1, by omega⟩
      have hll : (P ++ (X.take (k + 1) ++ y :: X.drop (k + 1)) ++ Q).length = N := by simp only [List.length_append, List.length_cons, List.length_take, List.length_drop]; omega
      have e1 := ins_nth (P := P) (S := X) (R := Q) (x := y) (k := k + 1) (by omega)
      have e2 := ins_prev (P := P) (S := X) (R := Q) (x := y) (k := k) (by omega)
      have e3 := ins_swp (P := P) (S := X) (R := Q) (x := y) (k := k) (by omega)
      generalize P ++ (X.take (k + 1) ++ y :: X.drop (k + 1)) ++ Q = L2 at *
      have g1 : nth L2 (a + ((k : Int) + 1)) = y := by rw [← e1]; congr 1; omega
      have g2 : nth L2 (a + ((k : Int) + 1) - 1) = nth X (k : Nat) := by rw [← e2]; congr 1; omega
      have e4 : (L2.set (P.length + k + 1) (nth X (k : Nat))).set (P.length + k) y = P ++ (X.take k ++ y :: X.drop k) ++ Q := by
        rw [← e3, swp, e2, show ((P.length + k + 1 : Nat) : Int) = ((P.length + (k + 1) : Nat) : Int) by omega, e1]
      refine run ?_
      refine r_sto (enc := shiftC) _ (P.length + k + 1) _ ?_
      refine run ?_
      refine r_sto (enc := shiftC) _ (P.length + k) _ ?_
      simp only [nth_toNat, g1, g2, e4]
      refine run ?_
      exact ⟨k, [0], [], Gc.of, by omega, by omega, by omega⟩
    · obtain rfl : w = u := by omega
      rw [hmg]
      refine run ?_
      exact r_end [0] []

end Go.TL

/- A stable sort: two blocks in order are merged, whatever their lengths. No conditions but those that are written. -/
namespace Go.TL
set_option linter.unusedSimpArgs false
open Go.Proofs Go.RowKit
attribute [local irreducible] wpOpsT wpT EndT Ex.seq Ex.block W

def symC (L : List ShiftV) (a m b : Int) (L' : List ShiftV) : Prop := CallsT Try.prog [⟨2, true, rowT shiftC L⟩] F.slices_symMergeCmpFunc_setting [.ref 0 [] 0 L.length, .v (.int .i64 a), .v (.int .i64 m), .v (.int .i64 b), .v (.func (.func 93) #[] #[])] (.tup []) [⟨2, true, rowT shiftC L'⟩]
def rotC (L : List ShiftV) (a m b : Int) (L' : List ShiftV) : Prop := CallsT Try.prog [⟨2, true, rowT shiftC L⟩] F.slices_rotateCmpFunc_setting [.ref 0 [] 0 L.length, .v (.int .i64 a), .v (.int .i64 m), .v (.int .i64 b), .v (.func (.func 93) #[] #[])] (.tup []) [⟨2, true, rowT shiftC L'⟩]
def symH (n : Nat) : Prop := ∀ (P X Y Q : List ShiftV), X.length + Y.length ≤ n → 0 < X.length → 0 < Y.length → ascP X → ascP Y → (P ++ X ++ Y ++ Q).length ≤ 100000 → ∀ {a m b : Int}, a = P.length → m = (P.length : Int) + X.length → b = (P.length : Int) + X.length + Y.length → symC (P ++ X ++ Y ++ Q) a m b (P ++ srt (X ++ Y) ++ Q)

/-- What is done behind the search. -/
theorem symKey {n : Nat} (IH : symH n) (P X Y Q : List ShiftV) (hn : X.length + Y.length ≤ n + 1) (hx : 0 < X.length) (hy : 0 < Y.length) (hX : ascP X) (hY : ascP Y) (hl : (P ++ X ++ Y ++ Q).length ≤ 100000) {s e : Nat} (hs : s ≤ X.length) (he : e ≤ Y.length) (hc : s + e = (X.length + Y.length) / 2)
    (h1 : s = X.length ∨ e = 0 ∨ (e ≤ Y.length ∧ (nth Y ((e - 1 : Nat) : Int)).at' < (nth X (s : Nat)).at')) (h2 : s = 0 ∨ e = Y.length ∨ (s ≤ X.length ∧ (nth X ((s - 1 : Nat) : Int)).at' ≤ (nth Y (e : Nat)).at'))
    {a m b st en mid : Int} (ha : a = P.length) (hm : m = (P.length : Int) + X.length) (hb : b = (P.length : Int) + X.length + Y.length) (hst : st = a + (s : Nat)) (hen : en = m + (e : Nat)) (hmid : mid = a + (s : Nat) + (e : Nat)) :
    ∃ L1 L2, ((st < m ∧ m < en → rotC (P ++ X ++ Y ++ Q) st m en L1) ∧ (¬ (st < m ∧ m < en) → P ++ X ++ Y ++ Q = L1)) ∧ ((a < st ∧ st < mid → symC L1 a st mid L2) ∧ (¬ (a < st ∧ st < mid) → L1 = L2)) ∧ ((mid < en ∧ en < b → symC L2 mid en b (P ++ srt (X ++ Y) ++ Q)) ∧ (¬ (mid < en ∧ en < b) → L2 = P ++ srt (X ++ Y) ++ Q)) ∧ L1.length = (P ++ X ++ Y ++ Q).length ∧ L2.length = (P ++ X ++ Y ++ Q).length := by
  have q1 := cut_lt hX hY h1
  have q2 := cut_le hX hY h2
  have lA : (X.take s).length = s := by rw [List.length_take]; omega
  have lB : (X.drop s).length = X.length - s := List.length_drop ..
  have lC : (Y.take e).length = e := by rw [List.length_take]; omega
  have lD : (Y.drop e).length = Y.length - e := List.length_drop ..
  have aA := asc_take hX s
  have aB := asc_drop hX s
  have aC := asc_take hY e
  have aD := asc_drop hY e
  have eX : X.take s ++ X.drop s = X := List.take_append_drop ..
  have eY : Y.take e ++ Y.drop e = Y := List.take_append_drop ..
  have hz1 := srt_ok (X.take s ++ Y.take e)
  have hz2 := srt_ok (X.drop s ++ Y.drop e)
  have hcr := cross hX hY q1 q2 hz1.1 hz1.2 hz2.1 hz2.2
  have hfin : srt (X.take s ++ Y.take e) ++ srt (X.drop s ++ Y.drop e) = srt (X ++ Y) := srt_of hcr.1 hcr.2
  have eL : P ++ X ++ Y ++ Q = P ++ X.take s ++ X.drop s ++ Y.take e ++ (Y.drop e ++ Q) := by
    conv => lhs; rw [← eX, ← eY]
    simp only [List.append_assoc]
  have hlen := len4 P X Y Q
  have lz1 : (srt (X.take s ++ Y.take e)).length = s + e := by rw [srt_len, List.length_append, lA, lC]
  refine ⟨P ++ X.take s ++ Y.take e ++ (X.drop s ++ (Y.drop e ++ Q)), P ++ srt (X.take s ++ Y.take e) ++ (X.drop s ++ (Y.drop e ++ Q)), ⟨fun h => ?_, fun h => ?_⟩, ⟨fun h => ?_, fun h => ?_⟩, ⟨fun h => ?_, fun h => ?_⟩, ?_, ?_⟩
  · have := rotateX (P ++ X.take s) (X.drop s) (Y.take e) (Y.drop e ++ Q) (by omega) (by omega) (by rw [← eL]; exact hl) (a := st) (m := m) (b := en) (by rw [List.length_append, lA]; omega) (by rw [List.length_append, lA, lB]; omega) (by rw [List.length_append, lA, lB, lC]; omega)
    rw [← eL] at this
    rw [show P ++ X.take s ++ Y.take e ++ (X.drop s ++ (Y.drop e ++ Q)) = P ++ X.take s ++ Y.take e ++ X.drop s ++ (Y.drop e ++ Q) by simp only [List.append_assoc]]
    exact this
  · rw [eL]
    have hh : X.drop s = [] ∨ Y.take e = [] := by
      rcases Nat.eq_or_lt_of_le hs with h' | h'
      · exact .inl (List.eq_nil_of_length_eq_zero (by omega))
      · exact .inr (List.eq_nil_of_length_eq_zero (by omega))
    rcases hh with hh | hh <;> rw [hh] <;> simp only [List.append_assoc, List.nil_append, List.append_nil]
  · exact IH P (X.take s) (Y.take e) (X.drop s ++ (Y.drop e ++ Q)) (by omega) (by omega) (by omega) aA aC (by rw [len4]; simp only [List.length_append]; omega) (by omega) (by omega) (by omega)
  · have hh : X.take s = [] ∨ Y.take e = [] := by
      rcases Nat.eq_zero_or_pos s with h' | h'
      · exact .inl (List.eq_nil_of_length_eq_zero (by omega))
      · exact .inr (List.eq_nil_of_length_eq_zero (by omega))
    have : srt (X.take s ++ Y.take e) = X.take s ++ Y.take e := by
      refine srt_id ?_
      rcases hh with hh | hh <;> rw [hh]
      · rw [List.nil_append]; exact aC
      · rw [List.append_nil]; exact aA
    rw [this]
    simp only [List.append_assoc]
  · have := IH (P ++ srt (X.take s ++ Y.take e)) (X.drop s) (Y.drop e) Q (by omega) (by omega) (by omega) aB aD (by rw [len4, List.length_append]; omega) (a := mid) (m := en) (b := b) (by rw [List.length_append]; omega) (by rw [List.length_append]; omega) (by rw [List.length_append]; omega)
    rw [show P ++ srt (X.take s ++ Y.take e) ++ srt (X.drop s ++ Y.drop e) ++ Q = P ++ srt (X ++ Y) ++ Q by rw [← hfin]; simp only [List.append_assoc]] at this
    rw [show P ++ srt (X.take s ++ Y.take e) ++ (X.drop s ++ (Y.drop e ++ Q)) = P ++ srt (X.take s ++ Y.take e) ++ X.drop s ++ Y.drop e ++ Q by simp only [List.append_assoc]]
    exact this
  · have hh : X.drop s = [] ∨ Y.drop e = [] := by
      rcases Nat.eq_or_lt_of_le hs with h' | h'
      · exact .inl (List.eq_nil_of_length_eq_zero (by omega))
      · exact .inr (List.eq_nil_of_length_eq_zero (by omega))
    have : srt (X.drop s ++ Y.drop e) = X.drop s ++ Y.drop e := by
      refine srt_id ?_
      rcases hh with hh | hh <;> rw [hh]
      · rw [List.nil_append]; exact aD
      · rw [List.append_nil]; exact aB
    rw [← hfin, this]
    simp only [List.append_assoc]
  · simp only [List.length_append] at hlen lz1 ⊢; omega
  · simp only [List.length_append] at hlen lz1 ⊢; omega

attribute [local go_sem] get_sh0 get_sh1 wrap_u64Y shr_u64Y

set_option linter.unusedSimpArgs false in
set_option maxHeartbeats 16000000 in
theorem symMerge3 {n : Nat} (IH : symH n) (P X Y Q : List ShiftV) (hn : X.length + Y.length ≤ n + 1) (hx : 1 < X.length) (hy : 1 < Y.length) (hX : ascP X) (hY : ascP Y) (hl : (P ++ X ++ Y ++ Q).length ≤ 100000) {a m b : Int} (ha : a = P.length) (hm : m = (P.length : Int) + X.length) (hb : b = (P.length : Int) + X.length + Y.length) : symC (P ++ X ++ Y ++ Q) a m b (P ++ srt (X ++ Y) ++ Q) := by
  unfold symC
  have hlen := len4 P X Y Q
  have hnx : ∀ i : Int, a ≤ i → i < m → nth (P ++ X ++ Y ++ Q) i = nth X (i - a) := fun i h1 h2 => by
    have := nth_X (P := P) (X := X) (Y := Y) (Q := Q) (i := (i - a).toNat) (by omega)
    rw [show (P.length : Int) + ((i - a).toNat : Nat) = i by omega, show (((i - a).toNat : Nat) : Int) = i - a by omega] at this
    exact this
  have hny : ∀ i : Int, m ≤ i → i < b → nth (P ++ X ++ Y ++ Q) i = nth Y (i - m) := fun i h1 h2 => by
    have := nth_Y (P := P) (X := X) (Y := Y) (Q := Q) (i := (i - m).toNat) (by omega)
    rw [show (P.length : Int) + X.length + ((i - m).toNat : Nat) = i by omega, show (((i - m).toNat : Nat) : Int) = i - m by omega] at this
    exact this
  have hkey := fun (s e : Nat) h1 h2 h3 h4 h5 => symKey IH P X Y Q hn (by omega) (by omega) hX hY hl (s := s) (e := e) h1 h2 h3 h4 h5 (a := a) (m := m) (b := b) (st := a + (s : Nat)) (en := m + (e : Nat)) (mid := a + (s : Nat) + (e : Nat)) ha hm hb rfl rfl rfl
  generalize hN : (P ++ X ++ Y ++ Q).length = N at *
  generalize P ++ srt (X ++ Y) ++ Q = LF at *
  generalize hL : P ++ X ++ Y ++ Q = L at *
  refine fnT C.slices_symMergeCmpFunc_setting ?_
  refine run ?_
  obtain ⟨s0, r0, hsr⟩ : ∃ s0 r0 : Int, ((m > (a + b) / 2 ∧ s0 = (a + b) / 2 + m - b ∧ r0 = (a + b) / 2) ∨ (¬ m > (a + b) / 2 ∧ s0 = a ∧ r0 = m)) := by
    by_cases h : m > (a + b) / 2
    · exact ⟨_, _, .inl ⟨h, rfl, rfl⟩⟩
    · exact ⟨_, _, .inr ⟨h, rfl, rfl⟩⟩
  refine r_ifd (fun hmm => ?_) (fun hmm => ?_)
  all_goals
    refine run ?_
    refine r_loop_of (σ := Int × Int) (fun s => [(0, .ref 0 [] 0 N), (1, .v (.int .i64 a)), (2, .v (.int .i64 m)), (3, .v (.int .i64 b)), (4, .v (.func (.func 93) #[] #[])), (18, .v (.int .i64 ((a + b) / 2))), (19, .v (.int .i64 ((a + b) / 2 + m))), (20, .v (.int .i64 s.1)), (21, .v (.int .i64 s.2)), (22, .v (.int .i64 ((a + b) / 2 + m - 1)))]) (fun s => [⟨2, true, rowT shiftC L⟩]) (fun s => s0 ≤ s.1 ∧ s.1 ≤ s.2 ∧ s.2 ≤ r0 ∧ (s.1 = s0 ∨ (nth X (s.1 - 1 - a)).at' ≤ (nth Y ((a + b) / 2 - s.1)).at') ∧ (s.2 = r0 ∨ (nth Y ((a + b) / 2 - 1 - s.2)).at' < (nth X (s.2 - a)).at')) (fun s => (s.2 - s.1).toNat) (s0, r0) [0] [] ⟨by dsimp only; omega, by dsimp only; omega, by dsimp only; omega, .inl rfl, .inl rfl⟩ Gc.of ?_
    rintro ⟨i, j⟩ ⟨h1, h2, h3, h4, h5⟩
    dsimp only at h1 h2 h3 h4 h5 ⊢
    refine run ?_
    refine r_ifd (fun hc => ?_) (fun hc => ?_)
    · have hh := half_b hc
      have f1 := hnx ((i + j) / 2) (by omega) (by omega)
      have f2 := hny ((a + b) / 2 + m - 1 - (i + j) / 2) (by omega) (by omega)
      rw [show (a + b) / 2 + m - 1 - (i + j) / 2 - m = (a + b) / 2 - 1 - (i + j) / 2 by omega] at f2
      have hcv := cmpV_lt (x := (nth Y ((a + b) / 2 - 1 - (i + j) / 2)).at') (y := (nth X ((i + j) / 2 - a)).at')
      refine runC ?_
      refine r_fv ?_
      refine run ?_
      refine r_ifd (fun h6 => ?_) (fun h6 => ?_)
      · simp only [nth_toNat, f1, f2] at h6
        refine run ?_
        refine ⟨((i + j) / 2 + 1, j), [0], [], Gc.of, by dsimp only; omega, by dsimp only; omega, by dsimp only; omega, by dsimp only; omega, .inr ?_, h5⟩
        dsimp only
        rw [show (i + j) / 2 + 1 - 1 - a = (i + j) / 2 - a by omega, show (a + b) / 2 - ((i + j) / 2 + 1) = (a + b) / 2 - 1 - (i + j) / 2 by omega]
        exact Int.not_lt.1 fun hh => h6 (hcv.2 hh)
      · simp only [nth_toNat, f1, f2] at h6
        refine run ?_
        exact ⟨(i, (i + j) / 2), [0], [], Gc.of, by dsimp only; omega, by dsimp only; omega, by dsimp only; omega, by dsimp only; omega, h4, .inr (hcv.1 (Decidable.not_not.1 h6))⟩
    · obtain rfl : i = j := by omega
      obtain ⟨s, rfl⟩ : ∃ s : Nat, i = a + (s : Nat) := ⟨(i - a).toNat, by omega⟩
      obtain ⟨e, he⟩ : ∃ e : Nat, (a + b) / 2 = a + (s : Nat) + (e : Nat) := ⟨((a + b) / 2 - (a + (s : Nat))).toNat, by omega⟩
      obtain ⟨L1, L2, ⟨k1, k1'⟩, ⟨k2, k2'⟩, ⟨k3, k3'⟩, k4, k5⟩ := hkey s e (by omega) (by omega) (by omega) (by
        rcases h5 with h | h
        · rcases hsr with hh | hh
          · exact .inr (.inl (by omega))
          · exact .inl (by omega)
        · rcases Nat.eq_zero_or_pos e with h0 | h0
          · exact .inr (.inl h0)
          · refine .inr (.inr ⟨by omega, ?_⟩)
            rw [he, show a + (s : Int) + (e : Int) - 1 - (a + (s : Int)) = ((e - 1 : Nat) : Int) by omega, show a + (s : Int) - a = (s : Nat) by omega] at h
            exact h) (by
        rcases h4 with h | h
        · rcases hsr with hh | hh
          · exact .inr (.inl (by omega))
          · exact .inl (by omega)
        · rcases Nat.eq_zero_or_pos s with h0 | h0
          · exact .inl h0
          · refine .inr (.inr ⟨by omega, ?_⟩)
            rw [he, show a + (s : Int) - 1 - a = ((s - 1 : Nat) : Int) by omega, show a + (s : Int) + (e : Int) - (a + (s : Int)) = (e : Nat) by omega] at h
            exact h)
      have bs : s ≤ 100000 ∧ e ≤ 100000 ∧ 0 ≤ a ∧ a ≤ 100000 ∧ 0 ≤ m ∧ m ≤ 100000 ∧ 0 ≤ b ∧ b ≤ 100000 := by omega
      rw [he]
      have eN : a + (s : Int) + (e : Int) + m - (a + (s : Int)) = m + (e : Nat) := by omega
      clear hkey hnx hny h1 h2 h3 h4 h5 hc hsr hmm he hx hy ha hm hb hlen hn IH
      unfold rotC at k1
      unfold symC at k2 k3
      rw [hN] at k1
      rw [k4] at k2
      rw [k5] at k3
      refine run ?_
      rw [eN]
      refine r_ifd (fun c1 => ?_) (fun c1 => ?_)
      · have k1 := k1 c1
        clear c1 k1'
        refine runC ?_
        refine r_calln [0] k1 ?_
        refine run ?_
        refine r_ifd (fun c2 => ?_) (fun c2 => ?_)
        · have k2 := k2 c2
          clear c2 k2'
          refine runC ?_
          refine r_calln [0] k2 ?_
          refine run ?_
          refine r_ifd (fun c3 => ?_) (fun c3 => ?_)
          · have k3 := k3 c3
            refine runC ?_
            refine r_calln [0] k3 ?_
            refine run ?_
            exact EndT.norm (r_end [0] [])
          · have k3' := k3' c3
            subst k3'
            refine run ?_
            exact EndT.norm (r_end [0] [])
        · have k2' := k2' c2
          clear c2 k2
          subst k2'
          refine run ?_
          refine r_ifd (fun c3 => ?_) (fun c3 => ?_)
          · have k3 := k3 c3
            refine runC ?_
            refine r_calln [0] k3 ?_
            refine run ?_
            exact EndT.norm (r_end [0] [])
          · have k3' := k3' c3
            subst k3'
            refine run ?_
            exact EndT.norm (r_end [0] [])
      · have k1' := k1' c1
        clear c1 k1
        subst k1'
        refine run ?_
        refine r_ifd (fun c2 => ?_) (fun c2 => ?_)
        · have k2 := k2 c2
          clear c2 k2'
          refine runC ?_
          refine r_calln [0] k2 ?_
          refine run ?_
          refine r_ifd (fun c3 => ?_) (fun c3 => ?_)
          · have k3 := k3 c3
            refine runC ?_
            refine r_calln [0] k3 ?_
            refine run ?_
            exact EndT.norm (r_end [0] [])
          · have k3' := k3' c3
            subst k3'
            refine run ?_
            exact EndT.norm (r_end [0] [])
        · have k2' := k2' c2
          clear c2 k2
          subst k2'
          refine run ?_
          refine r_ifd (fun c3 => ?_) (fun c3 => ?_)
          · have k3 := k3 c3
            refine runC ?_
            refine r_calln [0] k3 ?_
            refine run ?_
            exact EndT.norm (r_end [0] [])
          · have k3' := k3' c3
            subst k3'
            refine run ?_
            exact EndT.norm (r_end [0] [])

/-- Two blocks in order are merged. -/
theorem symMergeX : ∀ n, symH n
  | 0, P, X, Y, Q, h, hx, _, _, _, _, _, _, _, _, _, _ => by omega
  | n + 1, P, X, Y, Q, h, hx, hy, hX, hY, hl, a, m, b, ha, hm, hb => by
    by_cases h1 : X.length = 1
    · obtain ⟨x, rfl⟩ := List.length_eq_one_iff.1 h1
      exact symMerge1 P x Y Q hy hY hl ha (by rw [hm, h1]; rfl) (by rw [hb, h1]; rfl)
    · by_cases h2 : Y.length = 1
      · obtain ⟨y, rfl⟩ := List.length_eq_one_iff.1 h2
        exact symMerge2 P X y Q (by omega) hX hl ha hm (by rw [hb, h2]; rfl)
      · exact symMerge3 (symMergeX n) P X Y Q h (by omega) (by omega) hX hY hl ha hm hb

end Go.TL

/- The stable sort. No conditions but those that are written. -/
namespace Go.TL
set_option linter.unusedSimpArgs false
open Go.Proofs Go.RowKit
attribute [local irreducible] wpOpsT wpT EndT Ex.seq Ex.block W

def seg (l : List ShiftV) (s t : Nat) : List ShiftV := (l.drop s).take t
theorem seg_len (l : List ShiftV) (s t : Nat) : (seg l s t).length = min t (l.length - s) := by rw [seg, List.length_take, List.length_drop]
theorem seg_cut (l : List ShiftV) (s t : Nat) : l = l.take s ++ seg l s t ++ l.drop (s + t) := by
  rw [seg, List.append_assoc, ← List.drop_drop, List.take_append_drop, List.take_append_drop]
theorem seg_end {l : List ShiftV} {s t : Nat} (h : l.length ≤ s + t) : seg l s t = l.drop s := List.take_of_length_le (by rw [List.length_drop]; omega)
theorem seg_lo {P R : List ShiftV} {s t : Nat} (h : s + t ≤ P.length) : seg (P ++ R) s t = seg P s t := by
  rw [seg, seg, List.drop_append_of_le_length (by omega), List.take_append_of_le_length (by rw [List.length_drop]; omega)]
theorem seg_hi {P R : List ShiftV} {s t : Nat} (h : P.length ≤ s) : seg (P ++ R) s t = seg R (s - P.length) t := by
  rw [seg, seg, List.drop_append, List.drop_of_length_le h, List.nil_append]
/-- What a block's change leaves as it was. -/
theorem seg_keep {P W Z Q : List ShiftV} (hz : Z.length = W.length) {s t : Nat} (h : s + t ≤ P.length ∨ P.length + W.length ≤ s) : seg (P ++ Z ++ Q) s t = seg (P ++ W ++ Q) s t := by
  rcases h with h | h
  · rw [List.append_assoc, List.append_assoc, seg_lo h, seg_lo h]
  · rw [seg_hi (by rw [List.length_append]; omega), seg_hi (by rw [List.length_append]; omega), List.length_append, List.length_append, hz]
theorem seg_mid {P Z Q : List ShiftV} {s t : Nat} (hs : s = P.length) (ht : t = Z.length) : seg (P ++ Z ++ Q) s t = Z := by
  subst hs; subst ht
  rw [List.append_assoc, seg_hi (Nat.le_refl _), Nat.sub_self, seg, List.drop_zero, List.take_left']
  rfl
theorem seg_last {P Z : List ShiftV} {s t : Nat} (hs : s = P.length) (ht : Z.length ≤ t) : seg (P ++ Z) s t = Z := by
  subst hs
  rw [seg_hi (Nat.le_refl _), Nat.sub_self, seg, List.drop_zero, List.take_of_length_le ht]
theorem seg_nil {l : List ShiftV} {s t : Nat} (h : l.length ≤ s) : seg l s t = [] := by rw [seg, List.drop_of_length_le h, List.take_nil]
theorem asc_nil : ascP [] := List.Pairwise.nil

set_option linter.unusedSimpArgs false in
set_option maxHeartbeats 16000000 in
theorem stableX (D : List ShiftV) (hl : D.length ≤ 100000) : CallsT Try.prog [⟨2, true, rowT shiftC D⟩] F.slices_stableCmpFunc_setting [.ref 0 [] 0 D.length, .v (.int .i64 D.length), .v (.func (.func 93) #[] #[])] (.tup []) [⟨2, true, rowT shiftC (srt D)⟩] := by
  generalize hN : D.length = N at *
  refine fnT C.slices_stableCmpFunc_setting ?_
  refine run ?_
  refine r_loop_of (σ := Nat × List ShiftV) (fun s => [(0, .ref 0 [] 0 N), (1, .v (.int .i64 ((N : Nat)))), (2, .v (.func (.func 93) #[] #[])), (6, .v (.int .i64 20)), (7, .v (.int .i64 (20 * (s.1 : Nat)))), (8, .v (.int .i64 (20 * (s.1 : Nat) + 20)))]) (fun s => [⟨2, true, rowT shiftC s.2⟩]) (fun s => sameK D s.2 ∧ s.2.length = N ∧ (∀ i, i < s.1 → ascP (seg s.2 (20 * i) 20)) ∧ 20 * s.1 ≤ N) (fun s => N - 20 * s.1) (0, D) [0] [] ⟨sameK_refl _, hN, fun i hi => absurd hi (Nat.not_lt_zero _), Nat.zero_le _⟩ Gc.of ?_
  rintro ⟨k, L⟩ ⟨h1, h2, h3, h4⟩
  dsimp only at h1 h2 h3 h4 ⊢
  refine run ?_
  refine r_ifd (fun hc => ?_) (fun hc => ?_)
  · have hcut := seg_cut L (20 * k) 20
    have lp : (L.take (20 * k)).length = 20 * k := by rw [List.length_take]; omega
    have lw : (seg L (20 * k) 20).length = 20 := by rw [seg_len]; omega
    have lz : (srt (seg L (20 * k) 20)).length = (seg L (20 * k) 20).length := srt_len _
    have hz := srt_ok (seg L (20 * k) 20)
    have hins := insertionX (L.take (20 * k)) (seg L (20 * k) 20) (L.drop (20 * k + 20)) (by rw [← hcut]; omega) (a := 20 * (k : Nat)) (b := 20 * (k : Nat) + 20) (by omega) (by omega)
    rw [← hcut, h2] at hins
    refine runC ?_
    refine r_calln [0] hins ?_
    refine run ?_
    refine ⟨(k + 1, L.take (20 * k) ++ srt (seg L (20 * k) 20) ++ L.drop (20 * k + 20)), [0], [], Gc.of, by dsimp only; omega, ?_, ?_, ?_, by dsimp only; omega⟩
    · refine sameK_tr h1 ?_
      conv => lhs; rw [hcut]
      exact sameK_app (sameK_app (sameK_refl _) hz.2) (sameK_refl _)
    · have := congrArg List.length hcut
      simp only [List.length_append] at this ⊢
      omega
    · intro i hi
      dsimp only at hi ⊢
      rcases Nat.lt_or_ge i k with h | h
      · rw [seg_keep lz (.inl (by omega)), ← hcut]
        exact h3 i h
      · obtain rfl : i = k := by omega
        rw [seg_mid (by omega) (by omega)]
        exact hz.1
  · have lp : (L.take (20 * k)).length = 20 * k := by rw [List.length_take]; omega
    have hcut : L = L.take (20 * k) ++ L.drop (20 * k) ++ [] := by rw [List.append_nil, List.take_append_drop]
    have ld : (L.drop (20 * k)).length = N - 20 * k := by rw [List.length_drop, h2]
    have lz := srt_len (L.drop (20 * k))
    have hz := srt_ok (L.drop (20 * k))
    have hins := insertionX (L.take (20 * k)) (L.drop (20 * k)) [] (by rw [← hcut]; omega) (a := 20 * (k : Nat)) (b := (N : Nat)) (by omega) (by omega)
    rw [← hcut, h2] at hins
    have k1 : sameK D (L.take (20 * k) ++ srt (L.drop (20 * k)) ++ []) := by
      refine sameK_tr h1 ?_
      conv => lhs; rw [hcut]
      exact sameK_app (sameK_app (sameK_refl _) hz.2) (sameK_refl _)
    have k2 : (L.take (20 * k) ++ srt (L.drop (20 * k)) ++ []).length = N := by
      simp only [List.length_append, List.length_nil, lp, lz, ld]; omega
    have k3 : ∀ i, ascP (seg (L.take (20 * k) ++ srt (L.drop (20 * k)) ++ []) (20 * i) 20) := by
      intro i
      rcases Nat.lt_or_ge i k with h | h
      · rw [seg_keep lz (.inl (by omega)), ← hcut]
        exact h3 i h
      · rcases Nat.eq_or_lt_of_le h with rfl | h
        · rw [List.append_nil, seg_last (by omega) (by omega)]
          exact hz.1
        · rw [seg_nil (by rw [k2]; omega)]
          exact asc_nil
    rw [List.append_nil] at hins k1 k2
    simp only [List.append_nil] at k3
    refine runC ?_
    refine r_calln [0] hins ?_
    generalize L.take (20 * k) ++ srt (L.drop (20 * k)) = L1 at *
    clear hcut ld lz hz hins h1 h2 h3 h4 hc lp
    refine run ?_
    refine r_loop_of (σ := Nat × List ShiftV) (fun s => [(0, .ref 0 [] 0 N), (1, .v (.int .i64 ((N : Nat)))), (2, .v (.func (.func 93) #[] #[])), (6, .v (.int .i64 ((s.1 : Nat))))]) (fun s => [⟨2, true, rowT shiftC s.2⟩]) (fun s => sameK D s.2 ∧ s.2.length = N ∧ (∀ i, ascP (seg s.2 (s.1 * i) s.1)) ∧ 20 ≤ s.1 ∧ s.1 ≤ 1000000) (fun s => N - s.1) (20, L1) [0] [] ⟨k1, k2, k3, by dsimp only; omega, by dsimp only; omega⟩ Gc.of ?_
    clear k1 k2 k3
    rintro ⟨bs, L⟩ ⟨h1, h2, h3, h4, h5⟩
    dsimp only at h1 h2 h3 h4 h5 ⊢
    refine run ?_
    refine r_ifd (fun hc => ?_) (fun hc => ?_)
    · refine run ?_
      refine r_loop_of (σ := Nat × List ShiftV) (fun s => [(0, .ref 0 [] 0 N), (1, .v (.int .i64 ((N : Nat)))), (2, .v (.func (.func 93) #[] #[])), (6, .v (.int .i64 ((bs : Nat)))), (7, .v (.int .i64 (2 * ((bs * s.1 : Nat) : Int)))), (8, .v (.int .i64 (2 * ((bs * s.1 : Nat) : Int) + 2 * (bs : Nat))))]) (fun s => [⟨2, true, rowT shiftC s.2⟩]) (fun s => sameK D s.2 ∧ s.2.length = N ∧ (∀ i, i < s.1 → ascP (seg s.2 (2 * bs * i) (2 * bs))) ∧ (∀ i, 2 * s.1 ≤ i → ascP (seg s.2 (bs * i) bs)) ∧ 2 * (bs * s.1) ≤ N) (fun s => N - 2 * (bs * s.1)) (0, L) [0] [] ⟨h1, h2, fun i hi => absurd hi (Nat.not_lt_zero _), fun i _ => h3 i, by simp⟩ Gc.of ?_
      clear h1 h2 h3
      rintro ⟨k, L⟩ ⟨h1, h2, h3, h3', h6⟩
      dsimp only at h1 h2 h3 h3' h6 ⊢
      have eb1 : bs * (k + 1) = bs * k + bs := Nat.mul_succ ..
      have eb2 : bs * (2 * k) = 2 * (bs * k) := by rw [Nat.mul_left_comm]
      have eb3 : bs * (2 * k + 1) = 2 * (bs * k) + bs := by rw [Nat.mul_succ, eb2]
      have eb4 : 2 * bs * k = 2 * (bs * k) := Nat.mul_assoc ..
      have eb5 : ∀ i, i < k → 2 * bs * i + 2 * bs ≤ 2 * (bs * k) := fun i hi => by
        have := Nat.mul_le_mul_left (2 * bs) (show i + 1 ≤ k from hi)
        rw [Nat.mul_succ, eb4] at this
        exact this
      have eb6 : ∀ i, 2 * (k + 1) ≤ i → 2 * (bs * k) + 2 * bs ≤ bs * i := fun i hi => by
        have := Nat.mul_le_mul_left bs hi
        rw [Nat.mul_left_comm, eb1] at this
        omega
      generalize hA : bs * k = A at *
      have lp : (L.take (2 * A)).length = 2 * A := by rw [List.length_take]; omega
      have hX := h3' (2 * k) (Nat.le_refl _)
      have hY := h3' (2 * k + 1) (by omega)
      rw [eb2] at hX
      rw [eb3] at hY
      refine run ?_
      refine r_ifd (fun hc2 => ?_) (fun hc2 => ?_)
      · have lx : (seg L (2 * A) bs).length = bs := by rw [seg_len]; omega
        have ly : (seg L (2 * A + bs) bs).length = bs := by rw [seg_len]; omega
        have hcut : L = L.take (2 * A) ++ (seg L (2 * A) bs ++ seg L (2 * A + bs) bs) ++ L.drop (2 * A + bs + bs) := by
          have c1 := seg_cut L (2 * A) bs
          have c2 : L.drop (2 * A + bs) = seg L (2 * A + bs) bs ++ L.drop (2 * A + bs + bs) := by
            have := (List.take_append_drop bs (L.drop (2 * A + bs))).symm
            rw [List.drop_drop] at this
            exact this
          conv => lhs; rw [c1, c2]
          simp only [List.append_assoc]
        have lz : (srt (seg L (2 * A) bs ++ seg L (2 * A + bs) bs)).length = (seg L (2 * A) bs ++ seg L (2 * A + bs) bs).length := srt_len _
        have hz := srt_ok (seg L (2 * A) bs ++ seg L (2 * A + bs) bs)
        have hm : symC (L.take (2 * A) ++ seg L (2 * A) bs ++ seg L (2 * A + bs) bs ++ L.drop (2 * A + bs + bs)) (2 * (A : Int)) (2 * (A : Int) + (bs : Nat)) (2 * (A : Int) + 2 * (bs : Nat)) _ := symMergeX _ (L.take (2 * A)) (seg L (2 * A) bs) (seg L (2 * A + bs) bs) (L.drop (2 * A + bs + bs)) (Nat.le_refl _) (by omega) (by omega) hX hY (by rw [List.append_assoc (L.take (2 * A)), ← hcut]; omega) (by omega) (by omega) (by omega)
        rw [List.append_assoc (L.take (2 * A)), ← hcut] at hm
        unfold symC at hm
        rw [h2] at hm
        refine runC ?_
        refine r_calln [0] hm ?_
        refine run ?_
        refine ⟨(k + 1, L.take (2 * A) ++ srt (seg L (2 * A) bs ++ seg L (2 * A + bs) bs) ++ L.drop (2 * A + bs + bs)), [0], [], Gc.of, by dsimp only; omega, ?_, ?_, ?_, ?_, by dsimp only; omega⟩
        · refine sameK_tr h1 ?_
          conv => lhs; rw [hcut]
          exact sameK_app (sameK_app (sameK_refl _) hz.2) (sameK_refl _)
        · have := congrArg List.length hcut
          simp only [List.length_append] at this lz ⊢
          omega
        · intro i hi
          dsimp only at hi ⊢
          rcases Nat.lt_or_ge i k with h | h
          · rw [seg_keep lz (.inl (by have := eb5 i h; omega)), ← hcut]
            exact h3 i h
          · obtain rfl : i = k := by omega
            rw [eb4, seg_mid (by omega) (by rw [lz, List.length_append]; omega)]
            exact hz.1
        · intro i hi
          dsimp only at hi ⊢
          rw [seg_keep lz (.inr (by rw [List.length_append]; have := eb6 i hi; omega)), ← hcut]
          exact h3' i (by omega)
      · refine run ?_
        refine r_ifd (fun hc3 => ?_) (fun hc3 => ?_)
        · have lx : (seg L (2 * A) bs).length = bs := by rw [seg_len]; omega
          have ly : (seg L (2 * A + bs) bs).length = N - (2 * A + bs) := by rw [seg_len]; omega
          have ey : seg L (2 * A + bs) bs = L.drop (2 * A + bs) := seg_end (by omega)
          have hcut : L = L.take (2 * A) ++ (seg L (2 * A) bs ++ seg L (2 * A + bs) bs) ++ [] := by
            have c1 := seg_cut L (2 * A) bs
            rw [ey]
            conv => lhs; rw [c1]
            simp only [List.append_assoc, List.append_nil]
          have lz : (srt (seg L (2 * A) bs ++ seg L (2 * A + bs) bs)).length = (seg L (2 * A) bs ++ seg L (2 * A + bs) bs).length := srt_len _
          have hz := srt_ok (seg L (2 * A) bs ++ seg L (2 * A + bs) bs)
          have hm : symC (L.take (2 * A) ++ seg L (2 * A) bs ++ seg L (2 * A + bs) bs ++ []) (2 * (A : Int)) (2 * (A : Int) + (bs : Nat)) (N : Nat) _ := symMergeX _ (L.take (2 * A)) (seg L (2 * A) bs) (seg L (2 * A + bs) bs) [] (Nat.le_refl _) (by omega) (by omega) hX hY (by rw [List.append_assoc (L.take (2 * A)), ← hcut]; omega) (by omega) (by omega) (by omega)
          rw [List.append_assoc (L.take (2 * A)), ← hcut] at hm
          unfold symC at hm
          rw [h2] at hm
          refine runC ?_
          refine r_calln [0] hm ?_
          refine run ?_
          refine ⟨(2 * bs, L.take (2 * A) ++ srt (seg L (2 * A) bs ++ seg L (2 * A + bs) bs) ++ []), [0], [], Gc.of, by dsimp only; omega, ?_, ?_, ?_, by dsimp only; omega, by dsimp only; omega⟩
          · refine sameK_tr h1 ?_
            conv => lhs; rw [hcut]
            exact sameK_app (sameK_app (sameK_refl _) hz.2) (sameK_refl _)
          · have := congrArg List.length hcut
            simp only [List.length_append] at this lz ⊢
            omega
          · intro i
            dsimp only
            rcases Nat.lt_or_ge i k with h | h
            · rw [seg_keep lz (.inl (by have := eb5 i h; omega)), ← hcut]
              exact h3 i h
            · rcases Nat.eq_or_lt_of_le h with rfl | h
              · rw [eb4, List.append_nil, seg_last (by omega) (by rw [lz, List.length_append]; omega)]
                exact hz.1
              · have hge : 2 * A + 2 * bs ≤ 2 * bs * i := by
                  have := Nat.mul_le_mul_left (2 * bs) (show k + 1 ≤ i from h)
                  rw [Nat.mul_succ, eb4] at this
                  exact this
                rw [seg_nil (by simp only [List.length_append, List.length_nil] at lz ⊢; omega)]
                exact asc_nil
        · refine run ?_
          refine ⟨(2 * bs, L), [0], [], Gc.of, by dsimp only; omega, h1, h2, ?_, by dsimp only; omega, by dsimp only; omega⟩
          intro i
          dsimp only
          rcases Nat.lt_or_ge i k with h | h
          · exact h3 i h
          · rcases Nat.eq_or_lt_of_le h with rfl | h
            · rw [eb4, seg_end (by omega)]
              rw [seg_end (by omega)] at hX
              exact hX
            · have hge : 2 * A + 2 * bs ≤ 2 * bs * i := by
                have := Nat.mul_le_mul_left (2 * bs) (show k + 1 ≤ i from h)
                rw [Nat.mul_succ, eb4] at this
                exact this
              rw [seg_nil (by omega)]
              exact asc_nil
    · have ha := h3 0
      rw [Nat.mul_zero, seg_end (by omega), List.drop_zero] at ha
      obtain rfl := srt_of ha h1
      refine run ?_
      exact EndT.norm (r_end [0] [])

theorem sortStableX (D : List ShiftV) (hl : D.length ≤ 100000) : CallsT Try.prog [⟨2, true, rowT shiftC D⟩] F.slices_SortStableFunc_setting [.ref 0 [] 0 D.length, .v (.func (.func 93) #[] #[])] (.tup []) [⟨2, true, rowT shiftC (srt D)⟩] := by
  refine fnT C.slices_SortStableFunc_setting ?_
  refine runC ?_
  refine r_calln [0] (stableX D hl) ?_
  refine run ?_
  exact EndT.norm (r_end [0] [])

end Go.TL
