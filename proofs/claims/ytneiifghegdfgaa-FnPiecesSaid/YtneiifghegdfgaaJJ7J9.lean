/- Texts joined. No conditions but those that are written. -/
import Derived.Test.YtneiifghegdfgaaJH1J3
import Derived.Test.YtneiifghegdfgaaF1
/- What is unsealed, both sides. No conditions but those that are written. -/
namespace Go.TL
set_option linter.unusedSimpArgs false
open Go.Proofs Go.RowKit
attribute [local irreducible] wpOpsT wpT EndT Ex.seq Ex.block W

def sumStep (p : Int × Int) (c : Int) : Int × Int := ((p.1 + c) % 65521, (p.2 + (p.1 + c) % 65521) % 65521)
def sumSt (b : List Int) : Int × Int := b.foldl sumStep (1, 0)
def sumL (b : List Int) : Int := 65536 * (sumSt b).2 + (sumSt b).1
theorem sumSt_b {b : List Int} (_hb : bytesP b) : (0 ≤ (sumSt b).1 ∧ (sumSt b).1 < 65521) ∧ 0 ≤ (sumSt b).2 ∧ (sumSt b).2 < 65521 := by
  have key : ∀ (b : List Int) (p : Int × Int), ((0 ≤ p.1 ∧ p.1 < 65521) ∧ 0 ≤ p.2 ∧ p.2 < 65521) → ((0 ≤ (b.foldl sumStep p).1 ∧ (b.foldl sumStep p).1 < 65521) ∧ 0 ≤ (b.foldl sumStep p).2 ∧ (b.foldl sumStep p).2 < 65521) := by
    intro b
    induction b with
    | nil => exact fun p h => h
    | cons c b ih => exact fun p h => ih _ (by unfold sumStep; dsimp only; omega)
  exact key b _ (by decide)
theorem sumSt_take {b : List Int} {i : Nat} (hi : i < b.length) : sumSt (b.take (i + 1)) = sumStep (sumSt (b.take i)) (nth b (i : Nat)) := by
  rw [take_nth hi, sumSt, List.foldl_append]; rfl
theorem sumL_b {b : List Int} (hb : bytesP b) : 0 ≤ sumL b ∧ sumL b < 4294967296 := by
  have := sumSt_b hb
  unfold sumL; omega
theorem bytesP_take {b : List Int} (h : bytesP b) (i : Nat) : bytesP (b.take i) := fun x hx => h x (List.mem_of_mem_take hx)
theorem bytesP_cut {b : List Int} (h : bytesP b) (x y : Int) : bytesP (cutL b x y) := fun z hz => h z (List.mem_of_mem_drop (List.mem_of_mem_take hz))

set_option maxHeartbeats 4000000 in
theorem impl_Sum (k : Nat) (b : List Int) (hpre : bytesP b ∧ b.length ≤ 140737488355328) : CallsT Try.prog [] F.impl_Sum [.sl false k b.length 1 (rowT u8C b)] (.v (.int .i64 (sumL b))) [] := by
  refine fnT C.impl_Sum ?_
  obtain ⟨hb, hl⟩ := hpre
  have hs := sumSt_b hb
  refine run ?_
  refine r_for b.length (fun i => [(3, .v (.int .i64 ((sumSt (b.take i)).1))), (4, .v (.int .i64 ((sumSt (b.take i)).2))), (7, .sl false k b.length 1 (rowT u8C b)), (8, .v (.int .i64 b.length)), (9, .v (.int .i64 i))]) (fun _ => []) (fun _ => True) [] [] trivial Gc.of (fun i hi _ => ?_) (fun _ => ?_)
  · have hn := bytesP_nth hb i
    have ht := sumSt_b (bytesP_take hb i)
    refine run ?_
    rw [sumSt_take hi]
    exact ⟨[], [], Gc.of, trivial⟩
  · rw [List.take_length]
    refine run ?_
    exact r_end [] []
instance (k : Nat) (b : List Int) : Con Try.prog F.impl_Sum [.sl false k b.length 1 (rowT u8C b)] (bytesP b ∧ b.length ≤ 140737488355328) (.v (.int .i64 (sumL b))) [] := ⟨fun h => impl_Sum k b h⟩

set_option maxHeartbeats 4000000 in
theorem spec_Sum (k : Nat) (b : List Int) (hpre : bytesP b ∧ b.length ≤ 140737488355328) : CallsT Try.prog [] F.spec_Sum [.sl false k b.length 1 (rowT u8C b)] (.v (.int .i64 (sumL b))) [] := by
  refine fnT C.spec_Sum ?_
  obtain ⟨hb, hl⟩ := hpre
  have hs := sumSt_b hb
  refine run ?_
  refine r_for b.length (fun i => [(0, .sl false k b.length 1 (rowT u8C b)), (3, .v (.int .i64 ((sumSt (b.take i)).1))), (4, .v (.int .i64 ((sumSt (b.take i)).2))), (5, .v (.int .i64 i))]) (fun _ => []) (fun _ => True) [] [] trivial Gc.of (fun i hi _ => ?_) (fun _ => ?_)
  · have hn := bytesP_nth hb i
    have ht := sumSt_b (bytesP_take hb i)
    refine run ?_
    rw [sumSt_take hi]
    exact ⟨[], [], Gc.of, trivial⟩
  · rw [List.take_length]
    refine run ?_
    exact r_end [] []
instance (k : Nat) (b : List Int) : Con Try.prog F.spec_Sum [.sl false k b.length 1 (rowT u8C b)] (bytesP b ∧ b.length ≤ 140737488355328) (.v (.int .i64 (sumL b))) [] := ⟨fun h => spec_Sum k b h⟩

/-- A sum's four bytes. -/
def sum4 (x : Int) : List Int := [x % 256, x / 256 % 256, x / 65536 % 256, x / 16777216]
set_option maxHeartbeats 4000000 in
theorem impl_sumBytes (k : Nat) (b : List Int) (hpre : bytesP b ∧ b.length ≤ 140737488355328) : CallsT Try.prog [] F.impl_sumBytes [.sl false k b.length 1 (rowT u8C b)] (.sl false 0 (sum4 (sumL b)).length 1 (rowT u8C (sum4 (sumL b)))) [] := by
  refine fnT C.impl_sumBytes ?_
  obtain ⟨hb, hl⟩ := hpre
  have hs := sumL_b hb
  refine run ?_
  exact r_end [] [0] (hres := by exact Wk.refl _)
instance (k : Nat) (b : List Int) : Con Try.prog F.impl_sumBytes [.sl false k b.length 1 (rowT u8C b)] (bytesP b ∧ b.length ≤ 140737488355328) (.sl false 0 (sum4 (sumL b)).length 1 (rowT u8C (sum4 (sumL b)))) [] := ⟨fun h => impl_sumBytes k b h⟩

/-- What lies sealed at a place. -/
def unI (b : List Int) (a : Int) : List Int := cutL b (gnA b a) (gnA b a + gnX b a)
def unE (b : List Int) (a : Int) : Int := gnA b a + gnX b a
def unS (b : List Int) (a : Int) : Prop := sumL (unI b a) = nth b (unE b a) + nth b (unE b a + 1) * 256 + nth b (unE b a + 2) * 65536 + nth b (unE b a + 3) * 16777216
instance (b : List Int) (a : Int) : Decidable (unS b a) := inferInstanceAs (Decidable (_ = _))
def unC (b : List Int) (a : Int) : Int := if ¬ gnO b a ∨ 3000 < gnX b a then 1 else if b.length - gnA b a < gnX b a + 4 then 2 else if ¬ unS b a then 3 else 0

theorem unC_0 {b : List Int} {a : Int} (hc : unC b a = 0) : (gnO b a ∧ gnX b a ≤ 3000) ∧ gnX b a + 4 ≤ b.length - gnA b a ∧ unS b a := by
  unfold unC at hc
  split at hc
  · exact absurd hc (by decide)
  rename_i h1
  split at hc
  · exact absurd hc (by decide)
  rename_i h2
  split at hc
  · exact absurd hc (by decide)
  rename_i h3
  exact ⟨⟨Decidable.not_not.1 (not_or.1 h1).1, Int.not_lt.1 (not_or.1 h1).2⟩, Int.not_lt.1 h2, Decidable.not_not.1 h3⟩

theorem strOfT_inj {x y : List Int} (hx : bytesP x) (hy : bytesP y) (h : strOfT x = strOfT y) : x = y := by
  rw [← strL_ofJ hx, ← strL_ofJ hy, h]
theorem cut4 {b : List Int} {e : Int} (h : 0 ≤ e ∧ e + 4 ≤ b.length) : cutL b e (e + 4) = [nth b e, nth b (e + 1), nth b (e + 2), nth b (e + 3)] := by
  obtain ⟨e, rfl⟩ := Int.eq_ofNat_of_zero_le h.1
  have hs : ∀ (n : Nat) (m : Nat), n < b.length → (b.drop n).take (m + 1) = nth b (n : Nat) :: (b.drop (n + 1)).take m := fun n m hn => by
    rw [List.drop_eq_getElem_cons hn, List.take_succ_cons, nth_nat hn]
  unfold cutL
  rw [Int.toNat_natCast, show ((e : Int) + 4).toNat - e = 3 + 1 by omega, hs _ _ (by omega), hs (e + 1) 2 (by omega), hs (e + 1 + 1) 1 (by omega), hs (e + 1 + 1 + 1) 0 (by omega), List.take_zero]
  rfl
theorem unS_str {b : List Int} {a : Int} (hb : bytesP b) (h : 0 ≤ unE b a ∧ unE b a + 4 ≤ b.length) : unS b a ↔ strOfT (cutL b (unE b a) (unE b a + 4)) = strOfT (sum4 (sumL (unI b a))) := by
  have hs := sumL_b (bytesP_cut hb (gnA b a) (gnA b a + gnX b a))
  rw [show cutL b (gnA b a) (gnA b a + gnX b a) = unI b a from rfl] at hs
  have h0 := bytesP_nth hb (unE b a)
  have h1 := bytesP_nth hb (unE b a + 1)
  have h2 := bytesP_nth hb (unE b a + 2)
  have h3 := bytesP_nth hb (unE b a + 3)
  rw [cut4 h]
  unfold unS sum4
  constructor
  · intro e
    rw [e]
    congr 1
    rw [show (nth b (unE b a) + nth b (unE b a + 1) * 256 + nth b (unE b a + 2) * 65536 + nth b (unE b a + 3) * 16777216) % 256 = nth b (unE b a) by omega,
      show (nth b (unE b a) + nth b (unE b a + 1) * 256 + nth b (unE b a + 2) * 65536 + nth b (unE b a + 3) * 16777216) / 256 % 256 = nth b (unE b a + 1) by omega,
      show (nth b (unE b a) + nth b (unE b a + 1) * 256 + nth b (unE b a + 2) * 65536 + nth b (unE b a + 3) * 16777216) / 65536 % 256 = nth b (unE b a + 2) by omega,
      show (nth b (unE b a) + nth b (unE b a + 1) * 256 + nth b (unE b a + 2) * 65536 + nth b (unE b a + 3) * 16777216) / 16777216 = nth b (unE b a + 3) by omega]
  · intro e
    have e := strOfT_inj (by intro x hx; simp only [List.mem_cons, List.not_mem_nil, or_false] at hx; omega) (by intro x hx; simp only [List.mem_cons, List.not_mem_nil, or_false] at hx; omega) e
    simp only [List.cons.injEq, and_true] at e
    omega

theorem lin4 {x0 x1 x2 x3 : Int} (h0 : 0 ≤ x0 ∧ x0 < 256) (h1 : 0 ≤ x1 ∧ x1 < 256) (h2 : 0 ≤ x2 ∧ x2 < 256) (h3 : 0 ≤ x3 ∧ x3 < 256) :
    wrap64 (wrap64 (wrap64 (x0 + wrap64 (x1 * 2 ^ min 8 64)) + wrap64 (x2 * 2 ^ min 16 64)) + wrap64 (x3 * 2 ^ min 24 64)) = x0 + x1 * 256 + x2 * 65536 + x3 * 16777216 := by
  rw [show (2 : Int) ^ min 8 64 = 256 by decide, show (2 : Int) ^ min 16 64 = 65536 by decide, show (2 : Int) ^ min 24 64 = 16777216 by decide]
  rw [wrap64_in (x := x1 * 256) (by omega), wrap64_in (x := x2 * 65536) (by omega), wrap64_in (x := x3 * 16777216) (by omega), wrap64_in (x := x0 + x1 * 256) (by omega), wrap64_in (x := x0 + x1 * 256 + x2 * 65536) (by omega), wrap64_in (by omega)]

theorem wk_no3 (t : T) (x y : Value) : Wk (.tup [t, .v x, .v y]) (.tup [.dead, .v x, .v y]) :=
  .tup rfl fun i u v hu hv => by
    match i with
    | 0 => simp only [List.getElem?_cons_zero, Option.some.injEq] at hu hv; subst hu; subst hv; exact .dead _
    | 1 => simp only [List.getElem?_cons_succ, List.getElem?_cons_zero, Option.some.injEq] at hu hv; subst hu; subst hv; exact .refl _
    | 2 => simp only [List.getElem?_cons_succ, List.getElem?_cons_zero, Option.some.injEq] at hu hv; subst hu; subst hv; exact .refl _
    | n + 3 => simp at hu

theorem spec_Unseal0 (k : Nat) (b : List Int) (a : Int) (hb : bytesP b) (hl : b.length ≤ 140737488351232) (ha : a ≤ 4611686018427387904) (hc : unC b a = 0) :
    CallsT Try.prog [] F.spec_Unseal [.sl false k b.length 1 (rowT u8C b), .v (.int .i64 a)] (.tup [.sl false 0 (unI b a).length 1 (rowT u8C (unI b a)), .v (.int .i64 (unE b a + 4)), .v (.int .i64 0)]) [] := by
  have hgA := gnA_b hb a
  have hgX := gnX_b hb a
  unfold unI unE
  refine fnT C.spec_Unseal ?_
  refine run ?_
  refine r_ifd (fun h1 => ?_) (fun h1 => ?_)
  · exact absurd (hc.symm.trans (if_pos h1)) (by decide)
  refine run ?_
  refine r_ifd (fun h2 => ?_) (fun h2 => ?_)
  · exact absurd (hc.symm.trans ((if_neg h1).trans (if_pos h2))) (by decide)
  have h1a := Decidable.not_not.1 (not_or.1 h1).1
  have h1b := (not_or.1 h1).2
  have hlen := cutL_len b (lo := gnA b a) (hi := gnA b a + gnX b a) ⟨by omega, by omega, by omega⟩
  have hcb := bytesP_cut hb (gnA b a) (gnA b a + gnX b a)
  have hl4 := cutL_len b (lo := gnA b a + gnX b a) (hi := gnA b a + gnX b a + 4) ⟨by omega, by omega, by omega⟩
  have k0 : nth (cutL b (gnA b a + gnX b a) (gnA b a + gnX b a + 4)) 0 = nth b (unE b a) := by rw [nth_cut (by omega) (by omega)]; congr 1; unfold unE; omega
  have k1 : nth (cutL b (gnA b a + gnX b a) (gnA b a + gnX b a + 4)) 1 = nth b (unE b a + 1) := nth_cut (by omega) (by omega)
  have k2 : nth (cutL b (gnA b a + gnX b a) (gnA b a + gnX b a + 4)) 2 = nth b (unE b a + 2) := nth_cut (by omega) (by omega)
  have k3 : nth (cutL b (gnA b a + gnX b a) (gnA b a + gnX b a + 4)) 3 = nth b (unE b a + 3) := nth_cut (by omega) (by omega)
  have m0 := bytesP_nth hb (unE b a)
  have m1 := bytesP_nth hb (unE b a + 1)
  have m2 := bytesP_nth hb (unE b a + 2)
  have m3 := bytesP_nth hb (unE b a + 3)
  have n0 := bytesP_nth hb (unE b a)
  have n1 := bytesP_nth hb (unE b a + 1)
  have n2 := bytesP_nth hb (unE b a + 2)
  have n3 := bytesP_nth hb (unE b a + 3)
  rw [← k0] at n0
  rw [← k1] at n1
  rw [← k2] at n2
  rw [← k3] at n3
  refine run ?_
  refine r_app (enc := u8C) [] (cutL b (gnA b a) (gnA b a + gnX b a)) (by simp only [List.length_nil]; omega) ?_
  refine run ?_
  refine r_ifd (fun h3 => ?_) (fun h3 => ?_)
  · have h3' : ¬ unS b a := fun k => h3 (by rw [k0, k1, k2, k3, lin4 m0 m1 m2 m3]; exact k)
    exact absurd (hc.symm.trans ((if_neg h1).trans ((if_neg h2).trans (if_pos h3')))) (by decide)
  · refine run ?_
    exact r_end [] [1]

theorem spec_UnsealN (k : Nat) (b : List Int) (a : Int) (hb : bytesP b) (hl : b.length ≤ 140737488351232) (ha : a ≤ 4611686018427387904) (hc : unC b a ≠ 0) :
    CallsT Try.prog [] F.spec_Unseal [.sl false k b.length 1 (rowT u8C b), .v (.int .i64 a)] (.tup [.dead, .v (.int .i64 0), .v (.int .i64 (unC b a))]) [] := by
  have hgA := gnA_b hb a
  have hgX := gnX_b hb a
  refine fnT C.spec_Unseal ?_
  refine run ?_
  refine r_ifd (fun h1 => ?_) (fun h1 => ?_)
  · rw [show unC b a = 1 from if_pos h1]
    refine run ?_
    exact r_end [] [] (hres := by exact wk_no3 _ _ _)
  refine run ?_
  refine r_ifd (fun h2 => ?_) (fun h2 => ?_)
  · rw [show unC b a = 2 from (if_neg h1).trans (if_pos h2)]
    refine run ?_
    exact r_end [] [] (hres := by exact wk_no3 _ _ _)
  have h1a := Decidable.not_not.1 (not_or.1 h1).1
  have h1b := (not_or.1 h1).2
  have hlen := cutL_len b (lo := gnA b a) (hi := gnA b a + gnX b a) ⟨by omega, by omega, by omega⟩
  have hcb := bytesP_cut hb (gnA b a) (gnA b a + gnX b a)
  have hl4 := cutL_len b (lo := gnA b a + gnX b a) (hi := gnA b a + gnX b a + 4) ⟨by omega, by omega, by omega⟩
  have k0 : nth (cutL b (gnA b a + gnX b a) (gnA b a + gnX b a + 4)) 0 = nth b (unE b a) := by rw [nth_cut (by omega) (by omega)]; congr 1; unfold unE; omega
  have k1 : nth (cutL b (gnA b a + gnX b a) (gnA b a + gnX b a + 4)) 1 = nth b (unE b a + 1) := nth_cut (by omega) (by omega)
  have k2 : nth (cutL b (gnA b a + gnX b a) (gnA b a + gnX b a + 4)) 2 = nth b (unE b a + 2) := nth_cut (by omega) (by omega)
  have k3 : nth (cutL b (gnA b a + gnX b a) (gnA b a + gnX b a + 4)) 3 = nth b (unE b a + 3) := nth_cut (by omega) (by omega)
  have m0 := bytesP_nth hb (unE b a)
  have m1 := bytesP_nth hb (unE b a + 1)
  have m2 := bytesP_nth hb (unE b a + 2)
  have m3 := bytesP_nth hb (unE b a + 3)
  have n0 := bytesP_nth hb (unE b a)
  have n1 := bytesP_nth hb (unE b a + 1)
  have n2 := bytesP_nth hb (unE b a + 2)
  have n3 := bytesP_nth hb (unE b a + 3)
  rw [← k0] at n0
  rw [← k1] at n1
  rw [← k2] at n2
  rw [← k3] at n3
  refine run ?_
  refine r_app (enc := u8C) [] (cutL b (gnA b a) (gnA b a + gnX b a)) (by simp only [List.length_nil]; omega) ?_
  refine run ?_
  refine r_ifd (fun h3 => ?_) (fun h3 => ?_)
  · have h3' : ¬ unS b a := fun k => h3 (by rw [k0, k1, k2, k3, lin4 m0 m1 m2 m3]; exact k)
    rw [show unC b a = 3 from (if_neg h1).trans ((if_neg h2).trans (if_pos h3'))]
    refine run ?_
    exact r_end [] [] (hres := by exact wk_no3 _ _ _)
  · have h3' : unS b a := by have h4 := Decidable.not_not.1 h3; rw [k0, k1, k2, k3, lin4 m0 m1 m2 m3] at h4; exact h4
    exact absurd ((if_neg h1).trans ((if_neg h2).trans (if_neg (fun k => k h3')))) hc

theorem impl_Unseal0 (k : Nat) (b : List Int) (a : Int) (hb : bytesP b) (hl : b.length ≤ 140737488351232) (ha : a ≤ 4611686018427387904) (hc : unC b a = 0) :
    CallsT Try.prog [] F.impl_Unseal [.sl false k b.length 1 (rowT u8C b), .v (.int .i64 a)] (.tup [.sl false 0 (unI b a).length 1 (rowT u8C (unI b a)), .v (.int .i64 (unE b a + 4)), .v (.int .i64 0)]) [] := by
  have hgA := gnA_b hb a
  have hgX := gnX_b hb a
  unfold unI unE
  refine fnT C.impl_Unseal ?_
  refine run ?_
  refine r_ifd (fun h1 => ?_) (fun h1 => ?_)
  · exact absurd (hc.symm.trans (if_pos h1)) (by decide)
  refine run ?_
  refine r_ifd (fun h2 => ?_) (fun h2 => ?_)
  · exact absurd (hc.symm.trans ((if_neg h1).trans (if_pos (show (b.length : Int) - gnA b a < gnX b a + 4 from h2)))) (by decide)
  have h1a := Decidable.not_not.1 (not_or.1 h1).1
  have h1b := (not_or.1 h1).2
  have hlen := cutL_len b (lo := gnA b a) (hi := gnA b a + gnX b a) ⟨by omega, by omega, by omega⟩
  have hcb := bytesP_cut hb (gnA b a) (gnA b a + gnX b a)
  have hu := unS_str hb (a := a) (by unfold unE; omega)
  refine run ?_
  refine r_app (enc := u8C) [] (cutL b (gnA b a) (gnA b a + gnX b a)) (by simp only [List.length_nil]; omega) ?_
  refine run ?_
  refine r_ifd (fun h3 => ?_) (fun h3 => ?_)
  · have h3' : ¬ unS b a := fun k => h3 (hu.1 k)
    exact absurd (hc.symm.trans ((if_neg h1).trans ((if_neg h2).trans (if_pos h3')))) (by decide)
  · refine run ?_
    exact r_end [] [1]

theorem impl_UnsealN (k : Nat) (b : List Int) (a : Int) (hb : bytesP b) (hl : b.length ≤ 140737488351232) (ha : a ≤ 4611686018427387904) (hc : unC b a ≠ 0) :
    CallsT Try.prog [] F.impl_Unseal [.sl false k b.length 1 (rowT u8C b), .v (.int .i64 a)] (.tup [.dead, .v (.int .i64 0), .v (.int .i64 (unC b a))]) [] := by
  have hgA := gnA_b hb a
  have hgX := gnX_b hb a
  refine fnT C.impl_Unseal ?_
  refine run ?_
  refine r_ifd (fun h1 => ?_) (fun h1 => ?_)
  · rw [show unC b a = 1 from if_pos h1]
    refine run ?_
    exact r_end [] [] (hres := by exact wk_no3 _ _ _)
  refine run ?_
  refine r_ifd (fun h2 => ?_) (fun h2 => ?_)
  · rw [show unC b a = 2 from (if_neg h1).trans (if_pos (show (b.length : Int) - gnA b a < gnX b a + 4 from h2))]
    refine run ?_
    exact r_end [] [] (hres := by exact wk_no3 _ _ _)
  have h1a := Decidable.not_not.1 (not_or.1 h1).1
  have h1b := (not_or.1 h1).2
  have hlen := cutL_len b (lo := gnA b a) (hi := gnA b a + gnX b a) ⟨by omega, by omega, by omega⟩
  have hcb := bytesP_cut hb (gnA b a) (gnA b a + gnX b a)
  have hu := unS_str hb (a := a) (by unfold unE; omega)
  refine run ?_
  refine r_app (enc := u8C) [] (cutL b (gnA b a) (gnA b a + gnX b a)) (by simp only [List.length_nil]; omega) ?_
  refine run ?_
  refine r_ifd (fun h3 => ?_) (fun h3 => ?_)
  · have h3' : ¬ unS b a := fun k => h3 (hu.1 k)
    rw [show unC b a = 3 from (if_neg h1).trans ((if_neg h2).trans (if_pos h3'))]
    refine run ?_
    exact r_end [] [] (hres := by exact wk_no3 _ _ _)
  · have h3' : unS b a := hu.2 (Decidable.not_not.1 h3)
    exact absurd ((if_neg h1).trans ((if_neg h2).trans (if_neg (fun k => k h3')))) hc

end Go.TL

/- A file is read from a disk; a journal is read, both sides. No conditions but those that are written. -/
namespace Go.TL
set_option linter.unusedSimpArgs false
open Go.Proofs Go.RowKit
attribute [local irreducible] wpOpsT wpT EndT Ex.seq Ex.block W

def findF (l : List FileV) (n : Int) : Int := findBy (fun f : FileV => decide (f.name = n)) l

set_option maxHeartbeats 4000000 in
theorem spec_l3Find (k : Nat) (room : Int) (l : List FileV) (n : Int) (hpre : l.length * 40 ≤ 140737488351232) : CallsT Try.prog [] F.spec_l3Find [.agg [.v (.int .i64 room), .sl false k l.length 3 (rowT fileC l)], .v (.int .i64 n)] (.v (.int .i64 (findF l n))) [] := by
  refine fnT C.spec_l3Find ?_
  refine run ?_
  refine r_for l.length (fun i => [(1, .v (.int .i64 n)), (2, .ptr 0 [] 0), (5, .v (.int .i64 i))]) (fun _ => [⟨0, true, [.v (.int .i64 room), .sl false k l.length 3 (rowT fileC l)]⟩]) (fun i => ∀ j, j < i → ¬ (nth l (j : Nat)).name = n) [0] [] all_0 Gc.of (fun i hi hv => ?_) (fun hv => ?_)
  · refine run ?_
    refine r_ifd (fun h => ?_) (fun h => ?_)
    · rw [show findF l n = i from findBy_at (p := fun f : FileV => decide (f.name = n)) hi (decide_eq_true h) (fun j hj hh => hv j hj (of_decide_eq_true hh))]
      refine run ?_
      exact r_end [] []
    · refine run ?_
      exact ⟨[0], [], Gc.of, all_step hv h⟩
  · rw [show findF l n = -1 from findBy_no fun j hj hh => hv j hj (of_decide_eq_true hh)]
    refine run ?_
    exact r_end [] []
instance (k : Nat) (room : Int) (l : List FileV) (n : Int) : Con Try.prog F.spec_l3Find [.agg [.v (.int .i64 room), .sl false k l.length 3 (rowT fileC l)], .v (.int .i64 n)] (l.length * 40 ≤ 140737488351232) (.v (.int .i64 (findF l n))) [] := ⟨fun h => spec_l3Find k room l n h⟩

set_option maxHeartbeats 4000000 in
theorem impl_fileAt_1 (k2 : Nat) (a n : Int) (s t : ByteArray) : CallsT Try.prog [] F.impl_fileAt_1 [.agg [.v (.int .i64 a), .v (.string s), .v (.string t)], .pz k2 [.v (.int .i64 n)] 0] (.v (.bool (decide (a = n)))) [] := by
  refine fnT C.impl_fileAt_1 ?_
  refine run ?_
  exact r_end [] []
instance (k2 : Nat) (a n : Int) (s t : ByteArray) : Con Try.prog F.impl_fileAt_1 [.agg [.v (.int .i64 a), .v (.string s), .v (.string t)], .pz k2 [.v (.int .i64 n)] 0] True (.v (.bool (decide (a = n)))) [] := ⟨fun _ => impl_fileAt_1 k2 a n s t⟩

set_option maxHeartbeats 4000000 in
theorem slices_IndexFunc_File (k k2 : Nat) (l : List FileV) (n : Int) (hpre : l.length * 40 ≤ 140737488351232) : CallsT Try.prog [] F.slices_IndexFunc_File [.sl false k l.length 3 (rowT fileC l), .clo 235 [.pz k2 [.v (.int .i64 n)] 0]] (.v (.int .i64 (findF l n))) [] := by
  refine fnT C.slices_IndexFunc_File ?_
  refine run ?_
  refine r_for l.length (fun i => [(0, .sl false k l.length 3 (rowT fileC l)), (1, .clo 235 [.pz k2 [.v (.int .i64 n)] 0]), (7, .v (.int .i64 l.length)), (8, .v (.int .i64 i))]) (fun _ => []) (fun i => ∀ j, j < i → ¬ (nth l (j : Nat)).name = n) [] [] all_0 Gc.of (fun i hi hv => ?_) (fun hv => ?_)
  · refine run ?_
    refine r_clo ?_
    refine run ?_
    refine r_ifd (fun h => ?_) (fun h => ?_)
    · rw [show findF l n = i from findBy_at (p := fun f : FileV => decide (f.name = n)) hi (decide_eq_true h) (fun j hj hh => hv j hj (of_decide_eq_true hh))]
      refine run ?_
      exact r_end [] []
    · refine run ?_
      exact ⟨[], [], Gc.of, all_step hv h⟩
  · rw [show findF l n = -1 from findBy_no fun j hj hh => hv j hj (of_decide_eq_true hh)]
    refine run ?_
    exact r_end [] []
instance (k k2 : Nat) (l : List FileV) (n : Int) : Con Try.prog F.slices_IndexFunc_File [.sl false k l.length 3 (rowT fileC l), .clo 235 [.pz k2 [.v (.int .i64 n)] 0]] (l.length * 40 ≤ 140737488351232) (.v (.int .i64 (findF l n))) [] := ⟨fun h => slices_IndexFunc_File k k2 l n h⟩

set_option maxHeartbeats 4000000 in
theorem impl_fileAt (k : Nat) (room : Int) (l : List FileV) (n : Int) (hpre : l.length * 40 ≤ 140737488351232) : CallsT Try.prog [] F.impl_fileAt [.agg [.v (.int .i64 room), .sl false k l.length 3 (rowT fileC l)], .v (.int .i64 n)] (.v (.int .i64 (findF l n))) [] := by
  refine fnT C.impl_fileAt ?_
  refine run ?_
  exact r_end [] []
instance (k : Nat) (room : Int) (l : List FileV) (n : Int) : Con Try.prog F.impl_fileAt [.agg [.v (.int .i64 room), .sl false k l.length 3 (rowT fileC l)], .v (.int .i64 n)] (l.length * 40 ≤ 140737488351232) (.v (.int .i64 (findF l n))) [] := ⟨fun h => impl_fileAt k room l n h⟩

/-- What is read of a disk, and whether. -/
def drO (room : Int) (l : List FileV) (n : Int) : Prop := diskP room l ∧ 0 ≤ findF l n
instance (room : Int) (l : List FileV) (n : Int) : Decidable (drO room l n) := inferInstanceAs (Decidable (_ ∧ _))
def drS (room : Int) (l : List FileV) (n : Int) : ByteArray := if drO room l n then (nth l (findF l n)).safe ++ (nth l (findF l n)).late else ⟨#[]⟩

theorem nthF_b {l : List FileV} (hb : bndFileS l) (i : Int) : bndFileV (nth l i) := by
  unfold nth
  rw [List.getD_eq_getElem?_getD]
  cases hh : l[i.toNat]? with
  | none => exact ⟨by decide, by decide⟩
  | some x => exact hb.2 x (List.mem_of_getElem? hh)

set_option maxHeartbeats 4000000 in
theorem spec_DiskRead (k : Nat) (room : Int) (l : List FileV) (n : Int) (hpre : bndFileS l ∧ totFileS l ≤ 1048576) : CallsT Try.prog [] F.spec_DiskRead [.agg [.v (.int .i64 room), .sl false k l.length 3 (rowT fileC l)], .v (.int .i64 n)] (.tup [.v (.string (drS room l n)), .v (.bool (decide (drO room l n)))]) [] := by
  refine fnT C.spec_DiskRead ?_
  obtain ⟨hb, ht⟩ := hpre
  have hb1 := hb.1
  have hf : -1 ≤ findF l n ∧ findF l n < l.length := findBy_b _ l
  have hx := nthF_b hb (findF l n)
  obtain ⟨hx1, hx2⟩ := hx
  refine run ?_
  refine r_ifd (fun h => ?_) (fun h => ?_)
  · have h1 : ¬ drO room l n := fun hh => h.elim (fun k => k hh.1) (fun k => by have := hh.2; omega)
    rw [show drS room l n = ⟨#[]⟩ from if_neg h1, decide_eq_false h1]
    refine run ?_
    exact r_end [] []
  · have h1 : drO room l n := ⟨Decidable.not_not.1 (not_or.1 h).1, by have := (not_or.1 h).2; omega⟩
    have h2 := h1.2
    rw [show drS room l n = (nth l (findF l n)).safe ++ (nth l (findF l n)).late from if_pos h1, decide_eq_true h1]
    refine run ?_
    exact r_end [] []
instance (k : Nat) (room : Int) (l : List FileV) (n : Int) : Con Try.prog F.spec_DiskRead [.agg [.v (.int .i64 room), .sl false k l.length 3 (rowT fileC l)], .v (.int .i64 n)] (bndFileS l ∧ totFileS l ≤ 1048576) (.tup [.v (.string (drS room l n)), .v (.bool (decide (drO room l n)))]) [] := ⟨fun h => spec_DiskRead k room l n h⟩

set_option maxHeartbeats 4000000 in
theorem impl_DiskRead (k : Nat) (room : Int) (l : List FileV) (n : Int) (hpre : bndFileS l ∧ totFileS l ≤ 1048576) : CallsT Try.prog [] F.impl_DiskRead [.agg [.v (.int .i64 room), .sl false k l.length 3 (rowT fileC l)], .v (.int .i64 n)] (.tup [.v (.string (drS room l n)), .v (.bool (decide (drO room l n)))]) [] := by
  refine fnT C.impl_DiskRead ?_
  obtain ⟨hb, ht⟩ := hpre
  have hb1 := hb.1
  have hf : -1 ≤ findF l n ∧ findF l n < l.length := findBy_b _ l
  have hx := nthF_b hb (findF l n)
  obtain ⟨hx1, hx2⟩ := hx
  refine run ?_
  refine r_ifd (fun h => ?_) (fun h => ?_)
  · have h1 : ¬ drO room l n := fun hh => h.elim (fun k => k hh.1) (fun k => by have := hh.2; omega)
    rw [show drS room l n = ⟨#[]⟩ from if_neg h1, decide_eq_false h1]
    refine run ?_
    exact r_end [] []
  · have h1 : drO room l n := ⟨Decidable.not_not.1 (not_or.1 h).1, by have := (not_or.1 h).2; omega⟩
    have h2 := h1.2
    rw [show drS room l n = (nth l (findF l n)).safe ++ (nth l (findF l n)).late from if_pos h1, decide_eq_true h1]
    refine run ?_
    exact r_end [] []
instance (k : Nat) (room : Int) (l : List FileV) (n : Int) : Con Try.prog F.impl_DiskRead [.agg [.v (.int .i64 room), .sl false k l.length 3 (rowT fileC l)], .v (.int .i64 n)] (bndFileS l ∧ totFileS l ≤ 1048576) (.tup [.v (.string (drS room l n)), .v (.bool (decide (drO room l n)))]) [] := ⟨fun h => impl_DiskRead k room l n h⟩

end Go.TL

/- A journal is read, both sides. No conditions but those that are written. -/
namespace Go.TL
set_option linter.unusedSimpArgs false
open Go.Proofs Go.RowKit
attribute [local irreducible] wpOpsT wpT EndT Ex.seq Ex.block W

/-- The texts of a journal from a place on, so many at most; where they end. -/
def jrL (b : List Int) : Nat → Int → List ByteArray
  | 0, _ => []
  | k + 1, a => if unC b a = 0 then strOfT (unI b a) :: jrL b k (unE b a + 4) else []
def jrA (b : List Int) : Nat → Int → Int
  | 0, a => a
  | k + 1, a => if unC b a = 0 then jrA b k (unE b a + 4) else a
theorem unE_b {b : List Int} (hb : bytesP b) {a : Int} (h : unC b a = 0) : 0 ≤ a ∧ a < unE b a + 4 ∧ unE b a + 4 ≤ b.length := by
  obtain ⟨⟨h1, h2⟩, h3, _⟩ := unC_0 h
  have := gn_b hb h1
  unfold unE; omega
theorem unI_size {b : List Int} (hb : bytesP b) {a : Int} (h : unC b a = 0) : (strOfT (unI b a)).size ≤ 3000 := by
  obtain ⟨⟨h1, h2⟩, h3, _⟩ := unC_0 h
  have := gn_b hb h1
  have := cutL_len b (lo := gnA b a) (hi := gnA b a + gnX b a) ⟨by omega, by omega, by omega⟩
  rw [strOf_size, unI]
  omega
theorem jrL_size {b : List Int} (hb : bytesP b) : ∀ (k : Nat) (a : Int), ∀ s ∈ jrL b k a, s.size ≤ 3000
  | 0, _, s, h => by simp [jrL] at h
  | k + 1, a, s, h => by
    unfold jrL at h
    split at h
    · rename_i hc
      rcases List.mem_cons.1 h with rfl | h
      · exact unI_size hb hc
      · exact jrL_size hb k _ s h
    · simp at h
theorem jrL_len (b : List Int) : ∀ (k : Nat) (a : Int), (jrL b k a).length ≤ k
  | 0, _ => by simp [jrL]
  | k + 1, a => by
    unfold jrL
    split
    · have := jrL_len b k (unE b a + 4); rw [List.length_cons]; omega
    · simp
theorem jrL_end {b : List Int} {k : Nat} {a : Int} (h : k = 0 ∨ unC b a ≠ 0) : jrL b k a = [] ∧ jrA b k a = a := by
  cases k with
  | zero => exact ⟨rfl, rfl⟩
  | succ k =>
    have h : unC b a ≠ 0 := h.resolve_left (by omega)
    exact ⟨if_neg h, if_neg h⟩
theorem unC_end {b : List Int} (hb : bytesP b) {a : Int} (h : (b.length : Int) ≤ a) : unC b a ≠ 0 := fun hc => by
  have := unE_b hb hc
  omega

/-- What is read of a journal. -/
def jdL (room : Int) (l : List FileV) (n : Int) : List ByteArray := if drO room l n then jrL (strL (drS room l n)) 2000 0 else []
def jdA (room : Int) (l : List FileV) (n : Int) : Int := if drO room l n then jrA (strL (drS room l n)) 2000 0 else 0
theorem jdL_size {room : Int} {l : List FileV} {n : Int} : ∀ s ∈ jdL room l n, s.size ≤ 3000 := by
  intro s h
  unfold jdL at h
  split at h
  · exact jrL_size (bytesP_str _) _ _ s h
  · simp at h
theorem jdL_len (room : Int) (l : List FileV) (n : Int) : (jdL room l n).length ≤ 2000 := by
  unfold jdL
  split
  · exact jrL_len _ _ _
  · simp

theorem sum_memJ {α : Type} {f : α → Int} (hf : ∀ x, 0 ≤ f x) : ∀ {l : List α} {x : α}, x ∈ l → f x ≤ sumI f l
  | y :: l, x, h => by
    have e : sumI f (y :: l) = f y + sumI f l := by simp [sumI]
    have h1 := sum_nn hf l
    have h2 := hf y
    rcases List.mem_cons.1 h with rfl | h
    · omega
    · have := sum_memJ hf h; omega
theorem fileV_tot {l : List FileV} (_hb : bndFileS l) (i : Int) : (nth l i).safe.size + (nth l i).late.size ≤ (totFileS l).toNat := by
  unfold nth
  rw [List.getD_eq_getElem?_getD]
  cases hh : l[i.toNat]? with
  | none => exact Nat.zero_le _
  | some x =>
    have h1 := sum_memJ totFileV_nn (List.mem_of_getElem? hh)
    have h2 : totFileV x = (x.safe.size : Int) + x.late.size := rfl
    unfold totFileS
    show x.safe.size + x.late.size ≤ _
    omega
theorem drS_size {room : Int} {l : List FileV} (hb : bndFileS l) (ht : totFileS l ≤ 1048576) (n : Int) : (drS room l n).size ≤ 1048576 := by
  unfold drS
  split
  · have := fileV_tot hb (findF l n)
    rw [ByteArray.size_append]
    omega
  · decide

set_option maxHeartbeats 4000000 in
theorem spec_JournalRead (k : Nat) (room : Int) (l : List FileV) (n : Int) (hpre : bndFileS l ∧ totFileS l ≤ 1048576) : CallsT Try.prog [] F.spec_JournalRead [.agg [.v (.int .i64 room), .sl false k l.length 3 (rowT fileC l)], .v (.int .i64 n)] (.tup [.sl false 0 (jdL room l n).length 1 (rowT strC (jdL room l n)), .v (.int .i64 (jdA room l n))]) [] := by
  refine fnT C.spec_JournalRead ?_
  obtain ⟨hb, ht⟩ := hpre
  have hds := drS_size (room := room) hb ht n
  have hbs := bytesP_str (drS room l n)
  have hl := strL_length (drS room l n)
  refine run ?_
  refine r_ifd (fun h => ?_) (fun h => ?_)
  · rw [show jdL room l n = [] from if_neg h, show jdA room l n = 0 from if_neg h]
    refine run ?_
    exact r_end [] [1]
  have h := Decidable.not_not.1 h
  rw [show jdL room l n = jrL (strL (drS room l n)) 2000 0 from if_pos h, show jdA room l n = jrA (strL (drS room l n)) 2000 0 from if_pos h]
  generalize drS room l n = s at *
  refine run ?_
  refine r_loop_of (σ := List ByteArray × Int × Nat) (fun t => [(6, .ref 0 [] 0 t.1.length), (9, .sl false 0 (strL s).length 1 (rowT u8C (strL s))), (10, .v (.int .i64 t.2.1))]) (fun t => [⟨1, true, rowT strC t.1⟩]) (fun t => (t.1 ++ jrL (strL s) t.2.2 t.2.1 = jrL (strL s) 2000 0 ∧ jrA (strL s) t.2.2 t.2.1 = jrA (strL s) 2000 0) ∧ t.1.length + t.2.2 = 2000 ∧ 0 ≤ t.2.1 ∧ t.2.1 ≤ 1048576) (fun t => t.2.2) ([], 0, 2000) [1] [2] ?_ Gc.of ?_
  · exact ⟨⟨rfl, rfl⟩, rfl, by decide, by decide⟩
  rintro ⟨o, a, m⟩ ⟨⟨h1, h2⟩, h3, h4, h5⟩
  dsimp only at h1 h2 h3 h4 h5 ⊢
  refine run ?_
  refine r_ifd (fun hc => ?_) (fun hc => ?_)
  · by_cases hu : unC (strL s) a = 0
    · have hun := spec_Unseal0 1 (strL s) a hbs (by omega) (by omega) hu
      have hub := unE_b hbs hu
      have hus := unI_size hbs hu
      obtain ⟨m, rfl⟩ : ∃ j, m = j + 1 := ⟨m - 1, by omega⟩
      rw [show jrL (strL s) (m + 1) a = strOfT (unI (strL s) a) :: jrL (strL s) m (unE (strL s) a + 4) from if_pos hu] at h1
      rw [show jrA (strL s) (m + 1) a = jrA (strL s) m (unE (strL s) a + 4) from if_pos hu] at h2
      refine run ?_
      refine r_callp true hun ?_
      refine run ?_
      exact ⟨(o ++ [strOfT (unI (strL s) a)], unE (strL s) a + 4, m), [2], [], Gc.of, by dsimp only; omega, ⟨by dsimp only; rw [List.append_assoc]; exact h1, h2⟩, by dsimp only; rw [List.length_append, List.length_singleton]; omega, by dsimp only; omega, by dsimp only; omega⟩
    · have hun := spec_UnsealN 1 (strL s) a hbs (by omega) (by omega) hu
      have he := jrL_end (b := strL s) (k := m) (a := a) (.inr hu)
      rw [he.1, List.append_nil] at h1
      rw [he.2] at h2
      refine run ?_
      refine r_callp true hun ?_
      refine run ?_
      rw [← h1, ← h2]
      exact r_end [] [0]
  · have he := jrL_end (b := strL s) (k := m) (a := a) (by
      by_cases hm : m = 0
      · exact .inl hm
      · exact .inr (unC_end hbs (by omega)))
    rw [he.1, List.append_nil] at h1
    rw [he.2] at h2
    rw [← h1, ← h2]
    refine run ?_
    exact r_end [] [0]
instance (k : Nat) (room : Int) (l : List FileV) (n : Int) : Con Try.prog F.spec_JournalRead [.agg [.v (.int .i64 room), .sl false k l.length 3 (rowT fileC l)], .v (.int .i64 n)] (bndFileS l ∧ totFileS l ≤ 1048576) (.tup [.sl false 0 (jdL room l n).length 1 (rowT strC (jdL room l n)), .v (.int .i64 (jdA room l n))]) [] := ⟨fun h => spec_JournalRead k room l n h⟩

set_option maxHeartbeats 4000000 in
theorem impl_JournalRead (k : Nat) (room : Int) (l : List FileV) (n : Int) (hpre : bndFileS l ∧ totFileS l ≤ 1048576) : CallsT Try.prog [] F.impl_JournalRead [.agg [.v (.int .i64 room), .sl false k l.length 3 (rowT fileC l)], .v (.int .i64 n)] (.tup [.sl false 0 (jdL room l n).length 1 (rowT strC (jdL room l n)), .v (.int .i64 (jdA room l n))]) [] := by
  refine fnT C.impl_JournalRead ?_
  obtain ⟨hb, ht⟩ := hpre
  have hds := drS_size (room := room) hb ht n
  have hbs := bytesP_str (drS room l n)
  have hl := strL_length (drS room l n)
  refine run ?_
  refine r_ifd (fun h => ?_) (fun h => ?_)
  · rw [show jdL room l n = [] from if_neg h, show jdA room l n = 0 from if_neg h]
    refine run ?_
    exact r_end [] [1]
  have h := Decidable.not_not.1 h
  rw [show jdL room l n = jrL (strL (drS room l n)) 2000 0 from if_pos h, show jdA room l n = jrA (strL (drS room l n)) 2000 0 from if_pos h]
  generalize drS room l n = s at *
  refine run ?_
  refine r_loop_of (σ := List ByteArray × Int × Nat) (fun t => [(6, .ref 0 [] 0 t.1.length), (9, .sl false 0 (strL s).length 1 (rowT u8C (strL s))), (10, .v (.int .i64 t.2.1))]) (fun t => [⟨1, true, rowT strC t.1⟩]) (fun t => (t.1 ++ jrL (strL s) t.2.2 t.2.1 = jrL (strL s) 2000 0 ∧ jrA (strL s) t.2.2 t.2.1 = jrA (strL s) 2000 0) ∧ t.1.length + t.2.2 = 2000 ∧ 0 ≤ t.2.1 ∧ t.2.1 ≤ 1048576) (fun t => t.2.2) ([], 0, 2000) [1] [2] ?_ Gc.of ?_
  · exact ⟨⟨rfl, rfl⟩, rfl, by decide, by decide⟩
  rintro ⟨o, a, m⟩ ⟨⟨h1, h2⟩, h3, h4, h5⟩
  dsimp only at h1 h2 h3 h4 h5 ⊢
  refine run ?_
  refine r_ifd (fun hc => ?_) (fun hc => ?_)
  · by_cases hu : unC (strL s) a = 0
    · have hun := impl_Unseal0 1 (strL s) a hbs (by omega) (by omega) hu
      have hub := unE_b hbs hu
      have hus := unI_size hbs hu
      obtain ⟨m, rfl⟩ : ∃ j, m = j + 1 := ⟨m - 1, by omega⟩
      rw [show jrL (strL s) (m + 1) a = strOfT (unI (strL s) a) :: jrL (strL s) m (unE (strL s) a + 4) from if_pos hu] at h1
      rw [show jrA (strL s) (m + 1) a = jrA (strL s) m (unE (strL s) a + 4) from if_pos hu] at h2
      refine run ?_
      refine r_callp true hun ?_
      refine run ?_
      exact ⟨(o ++ [strOfT (unI (strL s) a)], unE (strL s) a + 4, m), [2], [], Gc.of, by dsimp only; omega, ⟨by dsimp only; rw [List.append_assoc]; exact h1, h2⟩, by dsimp only; rw [List.length_append, List.length_singleton]; omega, by dsimp only; omega, by dsimp only; omega⟩
    · have hun := impl_UnsealN 1 (strL s) a hbs (by omega) (by omega) hu
      have he := jrL_end (b := strL s) (k := m) (a := a) (.inr hu)
      rw [he.1, List.append_nil] at h1
      rw [he.2] at h2
      refine run ?_
      refine r_callp true hun ?_
      refine run ?_
      rw [← h1, ← h2]
      exact r_end [] [0]
  · have he := jrL_end (b := strL s) (k := m) (a := a) (.inl (by omega))
    rw [he.1, List.append_nil] at h1
    rw [he.2] at h2
    rw [← h1, ← h2]
    refine run ?_
    exact r_end [] [0]
instance (k : Nat) (room : Int) (l : List FileV) (n : Int) : Con Try.prog F.impl_JournalRead [.agg [.v (.int .i64 room), .sl false k l.length 3 (rowT fileC l)], .v (.int .i64 n)] (bndFileS l ∧ totFileS l ≤ 1048576) (.tup [.sl false 0 (jdL room l n).length 1 (rowT strC (jdL room l n)), .v (.int .i64 (jdA room l n))]) [] := ⟨fun h => impl_JournalRead k room l n h⟩

end Go.TL
