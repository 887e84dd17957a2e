/- Texts joined. No conditions but those that are written. -/
import Derived.Test.YtneiifghegdfgaaDoorG2
import Derived.Test.YtneiifghegdfgaaDoorJU5U10
import Derived.Test.YtneiifghegdfgaaDoorA3
import Derived.Test.YtneiifghegdfgaaDoorD4
/- What is drawn of numbers: that there is a value and a place of the cursor, whatever the bytes. No conditions but those that are written. -/
namespace Go.TL
set_option linter.unusedSimpArgs false
open Go.Proofs Go.RowKit
attribute [local irreducible] wpOpsT wpT EndT Ex.seq Ex.block W

theorem below_ex (l : List Int) (c : Int × Int) (n : Int) (hc : curP l c.1) (hn : 0 < n ∧ n ≤ 1000000000) : ∃ (v : Int) (c' : Int × Int), (0 ≤ v ∧ v < n) ∧ curP l c'.1 ∧ CallsT Tryd.prog [⟨0, true, [.sl false 0 l.length 1 (rowT u8C l), .v (.int .i64 c.1), .v (.int .i64 c.2)]⟩] F.spec_l1Below [.ptr 0 [] 0, .v (.int .i64 n)] (.v (.int .i64 v)) [⟨0, true, [.sl false 0 l.length 1 (rowT u8C l), .v (.int .i64 (c'.1)), .v (.int .i64 (c'.2))]⟩] :=
  ⟨belowV n l c.1 c.2, (belowN n l c.1, belowS n c.2), below_b hn.1 l c.1 c.2, below_next n hc, spec_l1Below l c.1 c.2 n ⟨hc, hn⟩⟩
theorem pick_ex (l : List Int) (c : Int × Int) (m : List Int) (hc : curP l c.1) (hm : 0 < m.length ∧ m.length ≤ 1000000000) : ∃ (v : Int) (c' : Int × Int), v ∈ m ∧ curP l c'.1 ∧ ∀ k, CallsT Tryd.prog [⟨0, true, [.sl false 0 l.length 1 (rowT u8C l), .v (.int .i64 c.1), .v (.int .i64 c.2)]⟩] F.spec_l1PickInt [.ptr 0 [] 0, .sl false k m.length 1 (rowT i64C m)] (.v (.int .i64 v)) [⟨0, true, [.sl false 0 l.length 1 (rowT u8C l), .v (.int .i64 (c'.1)), .v (.int .i64 (c'.2))]⟩] := by
  have hb := below_b (n := m.length) (by omega) l c.1 c.2
  refine ⟨nth m (belowV m.length l c.1 c.2), (belowN m.length l c.1, belowS m.length c.2), ?_, below_next _ hc, fun k => spec_l1PickInt l c.1 c.2 k m ⟨hc, hm⟩⟩
  obtain ⟨i, hi⟩ := Int.eq_ofNat_of_zero_le hb.1
  rw [hi]
  exact nth_mem (by omega)
theorem once_ex (l : List Int) (c : Int × Int) (n : Int) (hc : curP l c.1) (hn : 0 < n ∧ n ≤ 1000000000) : ∃ (v : Bool) (c' : Int × Int), curP l c'.1 ∧ CallsT Tryd.prog [⟨0, true, [.sl false 0 l.length 1 (rowT u8C l), .v (.int .i64 c.1), .v (.int .i64 c.2)]⟩] F.spec_l1Once [.ptr 0 [] 0, .v (.int .i64 n)] (.v (.bool v)) [⟨0, true, [.sl false 0 l.length 1 (rowT u8C l), .v (.int .i64 (c'.1)), .v (.int .i64 (c'.2))]⟩] := by
  obtain ⟨v, c1, hv, hc1, h1⟩ := below_ex l c n hc hn
  refine ⟨decide (v = 0), c1, hc1, ?_⟩
  refine fnT C.spec_l1Once ?_
  refine runC ?_
  refine r_call1p 0 h1 ?_
  refine run ?_
  exact r_end [0] [] (hm := keep_one _)

end Go.TL

/- What is drawn of deeds and of their lines: that there is a value and a place of the cursor, whatever the bytes. No conditions but those that are written. -/
namespace Go.TL
set_option linter.unusedSimpArgs false
open Go.Proofs Go.RowKit
attribute [local irreducible] wpOpsT wpT EndT Ex.seq Ex.block W

theorem pickS_ex (l : List Int) (c : Int × Int) (m : List ByteArray) (hc : curP l c.1) (hm : 0 < m.length ∧ m.length ≤ 1000000000) : ∃ (v : ByteArray) (c' : Int × Int), v ∈ m ∧ curP l c'.1 ∧ ∀ k, CallsT Tryd.prog [⟨0, true, [.sl false 0 l.length 1 (rowT u8C l), .v (.int .i64 c.1), .v (.int .i64 c.2)]⟩] F.spec_l1Pick [.ptr 0 [] 0, .sl false k m.length 1 (rowT strC m)] (.v (.string v)) [⟨0, true, [.sl false 0 l.length 1 (rowT u8C l), .v (.int .i64 (c'.1)), .v (.int .i64 (c'.2))]⟩] := by
  have hb := below_b (n := m.length) (by omega) l c.1 c.2
  refine ⟨nth m (belowV m.length l c.1 c.2), (belowN m.length l c.1, belowS m.length c.2), ?_, below_next _ hc, fun k => spec_l1Pick l c.1 c.2 k m ⟨hc, hm⟩⟩
  obtain ⟨i, hi⟩ := Int.eq_ofNat_of_zero_le hb.1
  rw [hi]
  exact nth_mem (by omega)

/-- The texts of which one is drawn. -/
def textsF : List ByteArray := [⟨#[122, 111, 110, 101, 32, 65, 32, 54, 48, 32, 45, 10]⟩, ⟨#[122, 111, 110, 101, 32, 65, 32, 48, 32, 45, 10, 122, 111, 110, 101, 32, 66, 32, 51, 48, 32, 45, 10]⟩, ⟨List.toArray (List.append [114, 117, 108, 101, 32, 97, 32, 49, 57, 55, 48, 32, 50, 48, 51, 48, 32, 51, 32, 108, 97, 115, 116, 48, 32, 49, 50, 48, 32, 54, 48, 10, 114, 117, 108, 101, 32, 97, 32, 49, 57, 55] [48, 32, 50, 48, 51, 48, 32, 49, 48, 32, 108, 97, 115, 116, 48, 32, 49, 56, 48, 32, 48, 10, 122, 111, 110, 101, 32, 65, 32, 54, 48, 32, 97, 10, 108, 105, 110, 107, 32, 84, 32, 65, 10])⟩, ⟨#[]⟩, ⟨#[35, 32, 110, 111, 116, 104, 105, 110, 103, 10]⟩]
def tx15 (l : List Int) (c : Int × Int) : ByteArray := nth textsF (belowV textsF.length l c.1 c.2)
def tc15 (l : List Int) (c : Int × Int) : Int × Int := (belowN textsF.length l c.1, belowS textsF.length c.2)
theorem texts_small : ∀ s ∈ textsF, s.size ≤ 100 := by decide +kernel
theorem tx15_size (l : List Int) (c : Int × Int) : (tx15 l c).size ≤ 100 := by
  have hb := below_b (n := textsF.length) (by show (0 : Int) < 5; decide) l c.1 c.2
  obtain ⟨i, hi⟩ := Int.eq_ofNat_of_zero_le hb.1
  unfold tx15
  rw [hi]
  exact texts_small _ (nth_mem (by omega))
theorem spec_l15DrawText (l : List Int) (c : Int × Int) (hc : curP l c.1) : CallsT Tryd.prog [⟨0, true, [.sl false 0 l.length 1 (rowT u8C l), .v (.int .i64 c.1), .v (.int .i64 c.2)]⟩] F.spec_l15DrawText [.ptr 0 [] 0] (.v (.string (tx15 l c))) [⟨0, true, [.sl false 0 l.length 1 (rowT u8C l), .v (.int .i64 ((tc15 l c).1)), .v (.int .i64 ((tc15 l c).2))]⟩] := by
  refine fnT C.spec_l15DrawText ?_
  refine runC ?_
  refine r_call1p 0 (spec_l1Pick l c.1 c.2 1 textsF ⟨hc, by show 0 < 5; decide, by show 5 ≤ _; decide⟩) ?_
  refine run ?_
  exact r_end [0] [] (hm := keep_one _)

/-! ### Deeds -/
def stepDd (l : List Int) (ch : Int) (s : DeedV × (Int × Int)) : DeedV × (Int × Int) :=
  if ch = 116 then ({ s.1 with to := belowV 3 l s.2.1 s.2.2 }, (belowN 3 l s.2.1, belowS 3 s.2.2))
  else if ch = 114 then ({ s.1 with rel := 1 + belowV 3 l s.2.1 s.2.2 }, (belowN 3 l s.2.1, belowS 3 s.2.2))
  else if ch = 112 then ({ s.1 with part := belowV 4 l s.2.1 s.2.2 }, (belowN 4 l s.2.1, belowS 4 s.2.2))
  else if ch = 120 then ({ s.1 with text := tx15 l s.2 }, tc15 l s.2)
  else s
def deedF (l : List Int) (k : Int) (s : DeedV × (Int × Int)) : Nat → DeedV × (Int × Int)
  | 0 => s
  | i + 1 => stepDd l (nth (strL (formB k)) (i : Nat)) (deedF l k s i)
/-- What holds of a deed that is drawn. -/
def dsmall (d : DeedV) : Prop := (-1000000 ≤ d.kind ∧ d.kind ≤ 1000000) ∧ (-1000000 ≤ d.at_ ∧ d.at_ ≤ 1000000) ∧ (-1000000 ≤ d.to ∧ d.to ≤ 1000000) ∧ (-1000000 ≤ d.rel ∧ d.rel ≤ 1000000) ∧ (-1000000 ≤ d.part ∧ d.part ≤ 1000000) ∧ d.text.size ≤ 2000
theorem stepDd_ok {l : List Int} {ch : Int} {s : DeedV × (Int × Int)} (h : dsmall s.1 ∧ curP l s.2.1) : dsmall (stepDd l ch s).1 ∧ curP l (stepDd l ch s).2.1 := by
  obtain ⟨⟨h1, h2, h3, h4, h5, h6⟩, h7⟩ := h
  have b3 := below_b (n := 3) (by decide) l s.2.1 s.2.2
  have b4 := below_b (n := 4) (by decide) l s.2.1 s.2.2
  have bx := tx15_size l s.2
  unfold stepDd
  split
  · exact ⟨⟨h1, h2, by dsimp only; omega, h4, h5, h6⟩, below_next 3 h7⟩
  split
  · exact ⟨⟨h1, h2, h3, by dsimp only; omega, h5, h6⟩, below_next 3 h7⟩
  split
  · exact ⟨⟨h1, h2, h3, h4, by dsimp only; omega, h6⟩, below_next 4 h7⟩
  split
  · exact ⟨⟨h1, h2, h3, h4, h5, by dsimp only; omega⟩, by show curP l (belowN (textsF.length : Int) l s.2.1); exact below_next _ h7⟩
  · exact ⟨⟨h1, h2, h3, h4, h5, h6⟩, h7⟩
theorem deedF_ok {l : List Int} {k : Int} {s : DeedV × (Int × Int)} (h : dsmall s.1 ∧ curP l s.2.1) : ∀ i, dsmall (deedF l k s i).1 ∧ curP l (deedF l k s i).2.1
  | 0 => h
  | i + 1 => stepDd_ok (deedF_ok h i)

set_option maxHeartbeats 4000000 in
theorem spoil_ex (l : List Int) (c : Int × Int) (d : DeedV) (hc : curP l c.1) (hd : dsmall d) : ∃ (d' : DeedV) (c' : Int × Int), dsmall d' ∧ curP l c'.1 ∧ CallsT Tryd.prog [⟨0, true, [.sl false 0 l.length 1 (rowT u8C l), .v (.int .i64 c.1), .v (.int .i64 c.2)]⟩] F.spec_l15SpoilDeed [.ptr 0 [] 0, .agg (deedC d)] (.agg (deedC d')) [⟨0, true, [.sl false 0 l.length 1 (rowT u8C l), .v (.int .i64 (c'.1)), .v (.int .i64 (c'.2))]⟩] := by
  obtain ⟨v, c1, hv, hc1, h1⟩ := below_ex l c 20 hc (by omega)
  obtain ⟨q1, q2, q3, q4, q5, q6⟩ := hd
  by_cases e0 : v = 0
  · subst e0
    obtain ⟨w, c2, hw, hc2, h2⟩ := pick_ex l c1 [0, 15, 9, 14] hc1 ⟨by decide, by decide⟩
    refine ⟨{ d with kind := w }, c2, ⟨by simp at hw; dsimp only; omega, q2, q3, q4, q5, q6⟩, hc2, ?_⟩
    refine fnT C.spec_l15SpoilDeed ?_
    dsimp only [deedC]
    refine runC ?_
    refine r_call1p 0 h1 ?_
    refine runC ?_
    refine r_call1p 0 (h2 1) ?_
    refine run ?_
    exact r_end [0] [] (hm := keep_one _)
  by_cases e1 : v = 1
  · subst e1
    obtain ⟨w, c2, hw, hc2, h2⟩ := pick_ex l c1 [-1, 4, 5, 59, 60] hc1 ⟨by decide, by decide⟩
    refine ⟨{ d with at_ := w }, c2, ⟨q1, by simp at hw; dsimp only; omega, q3, q4, q5, q6⟩, hc2, ?_⟩
    refine fnT C.spec_l15SpoilDeed ?_
    dsimp only [deedC]
    refine runC ?_
    refine r_call1p 0 h1 ?_
    refine runC ?_
    refine r_call1p 0 (h2 1) ?_
    refine run ?_
    exact r_end [0] [] (hm := keep_one _)
  by_cases e2 : v = 2
  · subst e2
    obtain ⟨w, c2, hw, hc2, h2⟩ := pick_ex l c1 [-1, 4, 5, 40000, 40001] hc1 ⟨by decide, by decide⟩
    refine ⟨{ d with to := w }, c2, ⟨q1, q2, by simp at hw; dsimp only; omega, q4, q5, q6⟩, hc2, ?_⟩
    refine fnT C.spec_l15SpoilDeed ?_
    dsimp only [deedC]
    refine runC ?_
    refine r_call1p 0 h1 ?_
    refine runC ?_
    refine r_call1p 0 (h2 1) ?_
    refine run ?_
    exact r_end [0] [] (hm := keep_one _)
  by_cases e3 : v = 3
  · subst e3
    obtain ⟨w, c2, hw, hc2, h2⟩ := pick_ex l c1 [0, 1000, 1001] hc1 ⟨by decide, by decide⟩
    refine ⟨{ d with rel := w }, c2, ⟨q1, q2, q3, by simp at hw; dsimp only; omega, q5, q6⟩, hc2, ?_⟩
    refine fnT C.spec_l15SpoilDeed ?_
    dsimp only [deedC]
    refine runC ?_
    refine r_call1p 0 h1 ?_
    refine runC ?_
    refine r_call1p 0 (h2 1) ?_
    refine run ?_
    exact r_end [0] [] (hm := keep_one _)
  by_cases e4 : v = 4
  · subst e4
    obtain ⟨w, c2, hw, hc2, h2⟩ := pick_ex l c1 [-1, 1000, 1001, 40001] hc1 ⟨by decide, by decide⟩
    refine ⟨{ d with part := w }, c2, ⟨q1, q2, q3, q4, by simp at hw; dsimp only; omega, q6⟩, hc2, ?_⟩
    refine fnT C.spec_l15SpoilDeed ?_
    dsimp only [deedC]
    refine runC ?_
    refine r_call1p 0 h1 ?_
    refine runC ?_
    refine r_call1p 0 (h2 1) ?_
    refine run ?_
    exact r_end [0] [] (hm := keep_one _)
  by_cases e5 : v = 5
  · subst e5
    obtain ⟨w, c2, hw, hc2, h2⟩ := below_ex l c1 2 hc1 (by omega)
    obtain ⟨n, rfl⟩ := Int.eq_ofNat_of_zero_le hw.1
    refine ⟨{ d with text := strOfT (List.replicate (1000 + n) 0) }, c2, ⟨q1, q2, q3, q4, q5, by dsimp only; rw [strOf_size, List.length_replicate]; omega⟩, hc2, ?_⟩
    refine fnT C.spec_l15SpoilDeed ?_
    dsimp only [deedC]
    refine runC ?_
    refine r_call1p 0 h1 ?_
    refine runC ?_
    refine r_call1p 0 h2 ?_
    refine run ?_
    exact r_end [0] [] (hm := keep_one _)
  · refine ⟨d, c1, ⟨q1, q2, q3, q4, q5, q6⟩, hc1, ?_⟩
    refine fnT C.spec_l15SpoilDeed ?_
    dsimp only [deedC]
    refine runC ?_
    refine r_call1p 0 h1 ?_
    have t0 : decide (v = 0) = false := decide_eq_false e0
    have t1 : decide (v = 1) = false := decide_eq_false e1
    have t2 : decide (v = 2) = false := decide_eq_false e2
    have t3 : decide (v = 3) = false := decide_eq_false e3
    have t4 : decide (v = 4) = false := decide_eq_false e4
    have t5 : decide (v = 5) = false := decide_eq_false e5
    refine run ?_
    exact r_end [0] [] (hm := keep_one _)

set_option maxHeartbeats 4000000 in
theorem deed17_ex (l : List Int) (c : Int × Int) (hc : curP l c.1) : ∃ (d : DeedV) (c' : Int × Int), dsmall d ∧ curP l c'.1 ∧ CallsT Tryd.prog [⟨0, true, [.sl false 0 l.length 1 (rowT u8C l), .v (.int .i64 c.1), .v (.int .i64 c.2)]⟩] F.spec_l17DrawDeed [.ptr 0 [] 0] (.agg (deedC d)) [⟨0, true, [.sl false 0 l.length 1 (rowT u8C l), .v (.int .i64 (c'.1)), .v (.int .i64 (c'.2))]⟩] := by
  obtain ⟨k, c1, hk, hc1, h1⟩ := below_ex l c 14 hc (by omega)
  obtain ⟨a, c2, ha, hc2, h2⟩ := below_ex l c1 3 hc1 (by omega)
  have hf4 := formB_size (1 + k)
  have ok := deedF_ok (l := l) (k := 1 + k) (s := (⟨1 + k, a, 0, 0, 0, ⟨#[]⟩⟩, c2)) ⟨⟨by dsimp only; omega, by dsimp only; omega, by dsimp only; omega, by dsimp only; omega, by dsimp only; omega, by show 0 ≤ 2000; decide⟩, hc2⟩
  have hd0 : deedF l (1 + k) (⟨1 + k, a, 0, 0, 0, ⟨#[]⟩⟩, c2) 0 = (⟨1 + k, a, 0, 0, 0, ⟨#[]⟩⟩, c2) := rfl
  have hds : ∀ i, deedF l (1 + k) (⟨1 + k, a, 0, 0, 0, ⟨#[]⟩⟩, c2) (i + 1) = stepDd l (nth (strL (formB (1 + k))) (i : Nat)) (deedF l (1 + k) (⟨1 + k, a, 0, 0, 0, ⟨#[]⟩⟩, c2) i) := fun i => rfl
  generalize hF : deedF l (1 + k) (⟨1 + k, a, 0, 0, 0, ⟨#[]⟩⟩, c2) = Fd at *
  obtain ⟨b, c3, hc3, h3⟩ := once_ex l (Fd (formB (1 + k)).size).2 8 (ok _).2 (by omega)
  have hwalk : ∀ (d : DeedV) (c' : Int × Int), (b = false → d = (Fd (formB (1 + k)).size).1 ∧ c' = c3) → (b = true → CallsT Tryd.prog [⟨0, true, [.sl false 0 l.length 1 (rowT u8C l), .v (.int .i64 c3.1), .v (.int .i64 c3.2)]⟩] F.spec_l15SpoilDeed [.ptr 0 [] 0, .agg (deedC (Fd (formB (1 + k)).size).1)] (.agg (deedC d)) [⟨0, true, [.sl false 0 l.length 1 (rowT u8C l), .v (.int .i64 (c'.1)), .v (.int .i64 (c'.2))]⟩]) →
      CallsT Tryd.prog [⟨0, true, [.sl false 0 l.length 1 (rowT u8C l), .v (.int .i64 c.1), .v (.int .i64 c.2)]⟩] F.spec_l17DrawDeed [.ptr 0 [] 0] (.agg (deedC d)) [⟨0, true, [.sl false 0 l.length 1 (rowT u8C l), .v (.int .i64 (c'.1)), .v (.int .i64 (c'.2))]⟩] := by
    intro d c' hb0 hb1
    refine fnT C.spec_l17DrawDeed ?_
    dsimp only [deedC] at *
    refine runC ?_
    refine r_call1p 0 h1 ?_
    refine runC ?_
    refine r_call1p 0 h2 ?_
    refine run ?_
    refine r_for (formB (1 + k)).size (fun i => [(0, .ptr 0 [] 0), (2, .ptr 1 [] 0), (4, .ptr 2 [] 0), (5, .v (.string (formB (1 + k)))), (6, .v (.int .i64 i))]) (fun i => [⟨0, true, [.sl false 0 l.length 1 (rowT u8C l), .v (.int .i64 ((Fd i).2.1)), .v (.int .i64 ((Fd i).2.2))]⟩, ⟨0, true, [.v (.int .i64 0), .v (.int .i64 0), .v (.int .i64 0), .v (.int .i64 0), .v (.int .i64 0), .v (.string (⟨#[]⟩))]⟩, ⟨0, true, deedC (Fd i).1⟩]) (fun _ => True) [0, 1, 2] [] trivial (Gc.of (hs := by rw [hd0]; (simp only [go_sem, ↓reduceIte, Nat.reduceEqDiff, Nat.reduceMul, Nat.reduceAdd, Nat.reduceSub, Nat.reduceLT, Nat.reduceGT, Nat.reduceLeDiff, Nat.reduceBEq, Int.reduceLT, Int.reduceLE, Int.reduceNe, Int.reduceEq, Int.reduceToNat, Int.reduceAdd, Int.reduceSub, Int.reduceMul, Int.reduceNeg, Nat.reducePow, Int.reducePow, Nat.reduceSubDiff, decide_true, decide_false, reduceCtorEq, or_self, or_false, false_or, or_true, true_or, if_false, gt_iff_lt, ge_iff_le, ne_eq, not_true_eq_false, not_false_eq_true, and_self, beq_self_eq_true, Bool.false_eq_true]; try (repeat (first | exact True.intro | exact Wk.refl _ | exact Wk.nil _ _ | exact Wk.dead _ | exact Wk.bT (by assumption) | exact Wk.bF (by assumption) | exact Wk.eqI (by omega) | exact WkS.refl _ | exact Wks.same _ | exact Wks.nil | exact WkS.nil | refine And.intro ?_ ?_ | refine Wk.aggs ?_ | refine Wk.tups ?_ | refine Wks.cons ?_ ?_ | refine WkS.cons (by first | exact fun _ => rfl | exact fun h => absurd h Bool.false_ne_true) ?_ ?_ ?_ | assumption | exact (fun h => h) | exact (fun h => absurd h Bool.false_ne_true) | intro _))))) (fun i hi _ => ?_) (fun _ => ?_)
    · have hci := (ok i).2
      rw [hds i]
      unfold stepDd
      dsimp only [deedC]
      generalize Fd i = s at *
      refine run ?_
      refine r_ifd (fun e1 => ?_) (fun e1 => ?_)
      · rw [if_pos e1]
        refine runC ?_
        refine r_call1p 0 (spec_l1Below l s.2.1 s.2.2 3 ⟨hci, by omega⟩) ?_
        refine run ?_
        exact ⟨[0, 1, 2], [], Gc.of, trivial⟩
      rw [if_neg e1]
      refine run ?_
      refine r_ifd (fun e2 => ?_) (fun e2 => ?_)
      · rw [if_pos e2]
        refine runC ?_
        refine r_call1p 0 (spec_l1Below l s.2.1 s.2.2 3 ⟨hci, by omega⟩) ?_
        have b3 := below_b (n := 3) (by decide) l s.2.1 s.2.2
        refine run ?_
        exact ⟨[0, 1, 2], [], Gc.of, trivial⟩
      rw [if_neg e2]
      refine run ?_
      refine r_ifd (fun e3 => ?_) (fun e3 => ?_)
      · rw [if_pos e3]
        refine runC ?_
        refine r_call1p 0 (spec_l1Below l s.2.1 s.2.2 4 ⟨hci, by omega⟩) ?_
        refine run ?_
        exact ⟨[0, 1, 2], [], Gc.of, trivial⟩
      rw [if_neg e3]
      refine run ?_
      refine r_ifd (fun e4 => ?_) (fun e4 => ?_)
      · rw [if_pos e4]
        refine runC ?_
        refine r_call1p 0 (spec_l15DrawText l s.2 hci) ?_
        refine run ?_
        exact ⟨[0, 1, 2], [], Gc.of, trivial⟩
      · rw [if_neg e4]
        refine run ?_
        exact ⟨[0, 1, 2], [], Gc.of, trivial⟩
    · dsimp only [deedC]
      refine runC ?_
      refine r_call1p 0 h3 ?_
      cases b with
      | true =>
        refine runC ?_
        refine r_call1p 0 (hb1 rfl) ?_
        refine run ?_
        exact r_end [0] [] (hm := keep_one _)
      | false =>
        obtain ⟨rfl, rfl⟩ := hb0 rfl
        refine run ?_
        exact r_end [0] [] (hm := keep_one _)
  cases b with
  | true =>
    obtain ⟨d, c4, hd, hc4, h4⟩ := spoil_ex l c3 (Fd (formB (1 + k)).size).1 hc3 (ok _).1
    exact ⟨d, c4, hd, hc4, hwalk d c4 (fun h => by cases h) fun _ => h4⟩
  | false => exact ⟨(Fd (formB (1 + k)).size).1, c3, (ok _).1, hc3, hwalk _ _ (fun _ => ⟨rfl, rfl⟩) fun h => by cases h⟩

end Go.TL

/- Lines of deeds that are drawn: that there is one, whatever the bytes. No conditions but those that are written. -/
namespace Go.TL
set_option linter.unusedSimpArgs false
open Go.Proofs Go.RowKit
attribute [local irreducible] wpOpsT wpT EndT Ex.seq Ex.block W

theorem small_i64 {d : DeedV} (h : dsmall d) : I64 d.at_ ∧ I64 d.to ∧ I64 d.rel ∧ I64 d.part := by
  obtain ⟨_, h2, h3, h4, h5, _⟩ := h
  unfold I64
  omega
theorem drawDeedLine_ex (l : List Int) (hpre : (∀ x ∈ l, 0 ≤ x ∧ x < 256) ∧ l.length ≤ 140737488351232) : ∃ d : DeedV, dsmall d ∧ CallsT Tryd.prog [] F.spec_DrawDeedLine [.sl false 0 l.length 1 (rowT u8C l)] (.agg (deedC d)) [] := by
  have hn := spec_l1New l hpre
  obtain ⟨d, c', hd, hc', h1⟩ := deed17_ex l (0, newS l (newN l)) ⟨hpre.1, hpre.2, by omega, by omega⟩
  refine ⟨d, hd, ?_⟩
  refine fnT C.spec_DrawDeedLine ?_
  dsimp only [deedC] at *
  refine runC ?_
  refine r_callp false hn ?_
  refine runC ?_
  refine r_call1p 1 h1 ?_
  refine run ?_
  exact r_end [] []

/-- A text that is dented. -/
theorem dent_ex (l : List Int) (c : Int × Int) (s : ByteArray) (k : Nat) (m : List ByteArray) (hc : curP l c.1) (hs : s.size ≤ 100000) (hm : 0 < m.length ∧ m.length ≤ 1000) (hms : ∀ x ∈ m, x.size ≤ 100) : ∃ (s' : ByteArray) (c' : Int × Int), s'.size ≤ 2 * s.size + 100 ∧ curP l c'.1 ∧ CallsT Tryd.prog [⟨0, true, [.sl false 0 l.length 1 (rowT u8C l), .v (.int .i64 c.1), .v (.int .i64 c.2)]⟩] F.spec_l12Dent [.ptr 0 [] 0, .v (.string s), .sl false k m.length 1 (rowT strC m)] (.v (.string (s'))) [⟨0, true, [.sl false 0 l.length 1 (rowT u8C l), .v (.int .i64 (c'.1)), .v (.int .i64 (c'.2))]⟩] := by
  obtain ⟨v, c1, hv, hc1, h1⟩ := below_ex l c ((s.size : Int) + 1) hc (by omega)
  obtain ⟨w, c2, hw, hc2, h2⟩ := below_ex l c1 3 hc1 (by omega)
  by_cases e0 : w = 0
  · subst e0
    refine ⟨s.extract 0 v.toNat, c2, by rw [ByteArray.size_extract]; omega, hc2, ?_⟩
    refine fnT C.spec_l12Dent ?_
    refine runC ?_
    refine r_call1p 0 h1 ?_
    refine runC ?_
    refine r_call1p 0 h2 ?_
    refine run ?_
    exact r_end [0] [] (hm := keep_one _)
  obtain ⟨x, c3, hx, hc3, h3⟩ := pickS_ex l c2 m hc2 ⟨hm.1, by omega⟩
  have hxs := hms x hx
  have z1 : (s.extract 0 v.toNat).size = v.toNat := by rw [ByteArray.size_extract]; omega
  have z2 : (s.extract 0 v.toNat ++ x).size = v.toNat + x.size := by rw [ByteArray.size_append, z1]
  by_cases e1 : w = 1
  · subst e1
    have z3 : (s.extract ((min (v + 1) s.size).toNat) s.size).size ≤ s.size := by rw [ByteArray.size_extract]; omega
    refine ⟨s.extract 0 v.toNat ++ x ++ s.extract ((min (v + 1) s.size).toNat) s.size, c3, by rw [ByteArray.size_append, z2]; omega, hc3, ?_⟩
    refine fnT C.spec_l12Dent ?_
    refine runC ?_
    refine r_call1p 0 h1 ?_
    refine runC ?_
    refine r_call1p 0 h2 ?_
    refine runC ?_
    refine r_call1p 0 (h3 k) ?_
    refine run ?_
    exact r_end [0] [] (hm := keep_one _)
  · have t0 : decide (w = 0) = false := decide_eq_false e0
    have t1 : decide (w = 1) = false := decide_eq_false e1
    have z3 : (s.extract v.toNat s.size).size ≤ s.size := by rw [ByteArray.size_extract]; omega
    refine ⟨s.extract 0 v.toNat ++ x ++ s.extract v.toNat s.size, c3, by rw [ByteArray.size_append, z2]; omega, hc3, ?_⟩
    refine fnT C.spec_l12Dent ?_
    refine runC ?_
    refine r_call1p 0 h1 ?_
    refine runC ?_
    refine r_call1p 0 h2 ?_
    refine runC ?_
    refine r_call1p 0 (h3 k) ?_
    refine run ?_
    exact r_end [0] [] (hm := keep_one _)

end Go.TL

/- Lines of deeds that are drawn, dented or not: that there is one, whatever the bytes. No conditions but those that are written. -/
namespace Go.TL
set_option linter.unusedSimpArgs false
open Go.Proofs Go.RowKit
attribute [local irreducible] wpOpsT wpT EndT Ex.seq Ex.block W

def annB : ByteArray := ⟨#[97, 110, 110, 111, 117, 110, 99, 101, 32, 48, 32, 49, 32, 48, 32, 45]⟩
def dentsB : List ByteArray := [⟨#[32]⟩, ⟨#[48]⟩, ⟨#[45]⟩, ⟨#[120]⟩, ⟨#[57]⟩, ⟨#[35]⟩, ⟨#[32, 32]⟩, ⟨#[98, 101, 97, 116]⟩, ⟨#[97]⟩]
def showsB : List ByteArray := [⟨#[115, 104, 111, 119, 32, 48]⟩, ⟨#[115, 104, 111, 119, 32, 49]⟩, ⟨#[115, 104, 111, 119, 32, 57]⟩, ⟨#[115, 104, 111, 119, 32, 120]⟩, ⟨#[115, 104, 111, 119]⟩, ⟨#[97, 115, 107, 32, 48, 32, 65, 32, 49, 48, 48]⟩, ⟨#[97, 115, 107, 32, 49, 32, 66, 32, 48]⟩, ⟨#[97, 115, 107, 32, 48, 32, 97, 32, 49]⟩, ⟨#[97, 115, 107, 32, 48, 32, 65]⟩, ⟨#[97, 115, 107, 32, 57, 32, 65, 32, 49]⟩, ⟨#[97, 115, 107, 32, 48, 32, 65, 32, 48, 49]⟩, ⟨#[]⟩, ⟨#[35]⟩, ⟨#[104, 101, 108, 112]⟩]
theorem dents_small : ∀ x ∈ dentsB, x.size ≤ 100 := by decide
theorem shows_small : ∀ x ∈ showsB, x.size ≤ 100 := by decide
/-- The line of a deed, or another. -/
def lineOr (d : DeedV) : ByteArray := if deedP d.kind d.at_ d.to d.rel d.part d.text then lineB d.kind d.at_ d.to d.rel d.part d.text else annB
theorem lineOr_size (d : DeedV) : (lineOr d).size ≤ 20000 := by
  unfold lineOr
  split
  · rename_i h; exact line_small h
  · show 16 ≤ 20000; decide

set_option maxHeartbeats 8000000 in
theorem line17_ex (l : List Int) (c : Int × Int) (hc : curP l c.1) : ∃ (s : ByteArray) (c' : Int × Int), s.size ≤ 50000 ∧ curP l c'.1 ∧ CallsT Tryd.prog [⟨0, true, [.sl false 0 l.length 1 (rowT u8C l), .v (.int .i64 c.1), .v (.int .i64 c.2)]⟩] F.spec_l17DrawLine [.ptr 0 [] 0] (.v (.string s)) [⟨0, true, [.sl false 0 l.length 1 (rowT u8C l), .v (.int .i64 (c'.1)), .v (.int .i64 (c'.2))]⟩] := by
  obtain ⟨d, c1, hd, hc1, h1⟩ := deed17_ex l c hc
  obtain ⟨w, c2, hw, hc2, h2⟩ := below_ex l c1 6 hc1 (by omega)
  have hi := small_i64 hd
  have hline := spec_DeedLine d.kind d.at_ d.to d.rel d.part d.text hi
  have hsz := lineOr_size d
  have hwalk : ∀ (s : ByteArray) (c' : Int × Int) (x : ByteArray), x = lineOr d →
      (w = 0 → CallsT Tryd.prog [⟨0, true, [.sl false 0 l.length 1 (rowT u8C l), .v (.int .i64 c2.1), .v (.int .i64 c2.2)]⟩] F.spec_l12Dent [.ptr 0 [] 0, .v (.string x), .sl false 1 dentsB.length 1 (rowT strC dentsB)] (.v (.string s)) [⟨0, true, [.sl false 0 l.length 1 (rowT u8C l), .v (.int .i64 (c'.1)), .v (.int .i64 (c'.2))]⟩]) →
      (w = 1 → CallsT Tryd.prog [⟨0, true, [.sl false 0 l.length 1 (rowT u8C l), .v (.int .i64 c2.1), .v (.int .i64 c2.2)]⟩] F.spec_l1Pick [.ptr 0 [] 0, .sl false 1 showsB.length 1 (rowT strC showsB)] (.v (.string s)) [⟨0, true, [.sl false 0 l.length 1 (rowT u8C l), .v (.int .i64 (c'.1)), .v (.int .i64 (c'.2))]⟩]) →
      (¬ w = 0 → ¬ w = 1 → s = x ∧ c' = c2) →
      CallsT Tryd.prog [⟨0, true, [.sl false 0 l.length 1 (rowT u8C l), .v (.int .i64 c.1), .v (.int .i64 c.2)]⟩] F.spec_l17DrawLine [.ptr 0 [] 0] (.v (.string s)) [⟨0, true, [.sl false 0 l.length 1 (rowT u8C l), .v (.int .i64 (c'.1)), .v (.int .i64 (c'.2))]⟩] := by
    intro s c' x hx hw0 hw1 hw2
    refine fnT C.spec_l17DrawLine ?_
    dsimp only [deedC] at *
    refine runC ?_
    refine r_call1p 0 h1 ?_
    refine runC ?_
    refine r_callp false hline ?_
    refine run ?_
    have key : ∀ {p : Prop}, p → p := fun h => h
    refine r_ifd (fun hb => ?_) (fun hb => ?_)
    · have hxe : x = annB := by rw [hx, lineOr, if_neg hb]
      rw [hxe] at hw0 hw2
      unfold annB at hw0 hw2
      by_cases e0 : w = 0
      · subst e0
        refine runC ?_
        refine r_call1p 0 h2 ?_
        refine runC ?_
        refine r_call1p 0 (hw0 rfl) ?_
        refine run ?_
        exact r_end [0] [] (hm := keep_one _)
      by_cases e1 : w = 1
      · subst e1
        refine runC ?_
        refine r_call1p 0 h2 ?_
        refine runC ?_
        refine r_call1p 0 (hw1 rfl) ?_
        refine run ?_
        exact r_end [0] [] (hm := keep_one _)
      · obtain ⟨rfl, rfl⟩ := hw2 e0 e1
        have t0 : decide (w = 0) = false := decide_eq_false e0
        have t1 : decide (w = 1) = false := decide_eq_false e1
        refine runC ?_
        refine r_call1p 0 h2 ?_
        refine run ?_
        exact r_end [0] [] (hm := keep_one _)
    · have hb := Decidable.not_not.1 hb
      have hxe : lineB d.kind d.at_ d.to d.rel d.part d.text = x := by rw [hx, lineOr, if_pos hb]
      rw [hxe]
      by_cases e0 : w = 0
      · subst e0
        refine runC ?_
        refine r_call1p 0 h2 ?_
        refine runC ?_
        refine r_call1p 0 (hw0 rfl) ?_
        refine run ?_
        exact r_end [0] [] (hm := keep_one _)
      by_cases e1 : w = 1
      · subst e1
        refine runC ?_
        refine r_call1p 0 h2 ?_
        refine runC ?_
        refine r_call1p 0 (hw1 rfl) ?_
        refine run ?_
        exact r_end [0] [] (hm := keep_one _)
      · obtain ⟨rfl, rfl⟩ := hw2 e0 e1
        have t0 : decide (w = 0) = false := decide_eq_false e0
        have t1 : decide (w = 1) = false := decide_eq_false e1
        refine runC ?_
        refine r_call1p 0 h2 ?_
        refine run ?_
        exact r_end [0] [] (hm := keep_one _)
  by_cases e0 : w = 0
  · obtain ⟨s, c3, hs, hc3, h3⟩ := dent_ex l c2 (lineOr d) 1 dentsB hc2 (by omega) (by decide) dents_small
    exact ⟨s, c3, by omega, hc3, hwalk s c3 _ rfl (fun _ => h3) (fun e => by omega) (fun h => absurd e0 h)⟩
  by_cases e1 : w = 1
  · obtain ⟨s, c3, hs, hc3, h3⟩ := pickS_ex l c2 showsB hc2 (by decide)
    have := shows_small s hs
    exact ⟨s, c3, by omega, hc3, hwalk s c3 _ rfl (fun e => absurd e e0) (fun _ => h3 1) (fun _ h => absurd e1 h)⟩
  · exact ⟨lineOr d, c2, by omega, hc2, hwalk _ c2 _ rfl (fun e => absurd e e0) (fun e => absurd e e1) (fun _ _ => ⟨rfl, rfl⟩)⟩

theorem drawParseDeed_ex (l : List Int) (hpre : (∀ x ∈ l, 0 ≤ x ∧ x < 256) ∧ l.length ≤ 140737488351232) : ∃ s : ByteArray, s.size ≤ 50000 ∧ CallsT Tryd.prog [] F.spec_DrawParseDeed [.sl false 0 l.length 1 (rowT u8C l)] (.v (.string s)) [] := by
  have hn := spec_l1New l hpre
  obtain ⟨s, c1, hs, hc1, h1⟩ := line17_ex l (0, newS l (newN l)) ⟨hpre.1, hpre.2, by omega, by omega⟩
  obtain ⟨b, c2, hc2, h2⟩ := once_ex l c1 60 hc1 (by omega)
  cases b with
  | true =>
    obtain ⟨w, c3, hw, hc3, h3⟩ := below_ex l c2 2 hc2 (by omega)
    obtain ⟨n, rfl⟩ := Int.eq_ofNat_of_zero_le hw.1
    refine ⟨strOfT (List.replicate (20000 + n) 0), by rw [strOf_size, List.length_replicate]; omega, ?_⟩
    refine fnT C.spec_DrawParseDeed ?_
    refine runC ?_
    refine r_callp false hn ?_
    refine runC ?_
    refine r_call1p 0 h1 ?_
    refine runC ?_
    refine r_call1p 0 h2 ?_
    refine runC ?_
    refine r_call1p 0 h3 ?_
    refine run ?_
    exact r_end [] []
  | false =>
    refine ⟨s, hs, ?_⟩
    refine fnT C.spec_DrawParseDeed ?_
    refine runC ?_
    refine r_callp false hn ?_
    refine runC ?_
    refine r_call1p 0 h1 ?_
    refine runC ?_
    refine r_call1p 0 h2 ?_
    refine run ?_
    exact r_end [] []

end Go.TL
