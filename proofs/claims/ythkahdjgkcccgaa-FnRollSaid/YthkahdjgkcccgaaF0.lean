/- Rows: all of them, one of them, like ones. No conditions but those that are written. -/
import Derived.Test.YthkahdjgkcccgaaA1
import Derived.Test.YthkahdjgkcccgaaTGet
import Derived.Test.YthkahdjgkcccgaaTClo
namespace Go.TL
set_option linter.unusedSimpArgs false
open Go.Proofs Go.RowKit
attribute [local irreducible] wpOpsT wpT EndT Ex.seq Ex.block W

theorem all_step {p : Nat → Prop} {i : Nat} (hv : ∀ j, j < i → p j) (h : p i) : ∀ j, j < i + 1 → p j := fun j hj => by
  rcases Nat.lt_or_ge j i with hlt | hge
  · exact hv j hlt
  · obtain rfl : j = i := by omega
    exact h
theorem all_0 {p : Nat → Prop} : ∀ j, j < 0 → p j := fun _ hj => absurd hj (Nat.not_lt_zero _)
theorem ext_nth {α : Type} [Inhabited α] {a b : List α} (hl : a.length = b.length) (h : ∀ j, j < a.length → nth a (j : Nat) = nth b (j : Nat)) : a = b :=
  List.ext_getElem hl fun i h1 h2 => by
    have := h i h1
    rwa [nth_nat h1, nth_nat h2] at this

/-- The first place of a thing; -1 without one. -/
def findBy {α : Type} (p : α → Bool) (l : List α) : Int := if l.findIdx p < l.length then (l.findIdx p : Int) else -1
theorem findBy_at {α : Type} [Inhabited α] {p : α → Bool} {l : List α} {i : Nat} (hi : i < l.length) (h : p (nth l i) = true) (hv : ∀ j, j < i → ¬ p (nth l (j : Nat)) = true) : findBy p l = i := by
  have e : l.findIdx p = i := by
    rw [List.findIdx_eq hi]
    rw [nth_nat hi] at h
    refine ⟨h, fun j hj => ?_⟩
    have := hv j hj
    rw [nth_nat (by omega)] at this
    simpa using this
  unfold findBy
  rw [e, if_pos hi]
theorem findBy_no {α : Type} [Inhabited α] {p : α → Bool} {l : List α} (hv : ∀ j, j < l.length → ¬ p (nth l (j : Nat)) = true) : findBy p l = -1 := by
  unfold findBy
  rw [if_neg]
  intro h
  have h2 := List.findIdx_getElem (w := h)
  have := hv _ h
  rw [nth_nat h] at this
  exact this h2
theorem findBy_b {α : Type} (p : α → Bool) (l : List α) : -1 ≤ findBy p l ∧ findBy p l < l.length := by unfold findBy; split <;> omega
theorem findBy_hit {α : Type} [Inhabited α] {p : α → Bool} {l : List α} (h : 0 ≤ findBy p l) : p (nth l (findBy p l)) = true := by
  unfold findBy at h ⊢
  split at h
  · rename_i h1
    rw [if_pos h1, nth_nat h1]
    exact List.findIdx_getElem (w := h1)
  · omega
theorem findBy_mem {l : List Int} {v : Int} : 0 ≤ findBy (fun x => decide (v = x)) l ↔ v ∈ l := by
  constructor
  · intro h
    have h2 := findBy_hit h
    have h3 := findBy_b (fun x => decide (v = x)) l
    have h4 : (findBy (fun x => decide (v = x)) l).toNat < l.length := by omega
    have h5 := nth_mem (l := l) h4
    rw [nth_toNat] at h5
    rw [of_decide_eq_true h2]; exact h5
  · intro h
    obtain ⟨i, hi, rfl⟩ := List.mem_iff_getElem.1 h
    have : l.findIdx (fun x => decide (l[i] = x)) < l.length := List.findIdx_lt_length_of_exists ⟨l[i], List.getElem_mem hi, by simp⟩
    unfold findBy
    rw [if_pos this]; omega

set_option maxHeartbeats 4000000 in
theorem slices_Index_int (k : Nat) (l : List Int) (v : Int) (hpre : l.length ≤ 140737488351232) : CallsT Try.prog [] F.slices_Index_int [.sl false k l.length 1 (rowT i64C l), .v (.int .i64 v)] (.v (.int .i64 (findBy (fun x => decide (v = x)) l))) [] := by
  refine fnT C.slices_Index_int ?_
  refine run ?_
  refine r_for l.length (fun i => [(0, .sl false k l.length 1 (rowT i64C l)), (1, .v (.int .i64 v)), (7, .v (.int .i64 l.length)), (8, .v (.int .i64 i))]) (fun _ => []) (fun i => ∀ j, j < i → ¬ v = nth l (j : Nat)) [] [] all_0 Gc.of (fun i hi hv => ?_) (fun hv => ?_)
  · refine run ?_
    refine r_ifd (fun h => ?_) (fun h => ?_)
    · rw [findBy_at (p := fun x => decide (v = x)) hi (decide_eq_true h) fun j hj => by simpa using hv j hj]
      refine run ?_
      exact r_end [] []
    · refine run ?_
      exact ⟨[], [], Gc.of, all_step hv h⟩
  · rw [findBy_no (p := fun x => decide (v = x)) fun j hj => by simpa using hv j hj]
    refine run ?_
    exact r_end [] []
instance (k : Nat) (l : List Int) (v : Int) : Con Try.prog F.slices_Index_int [.sl false k l.length 1 (rowT i64C l), .v (.int .i64 v)] (l.length ≤ 140737488351232) (.v (.int .i64 (findBy (fun x => decide (v = x)) l))) [] := ⟨fun h => slices_Index_int k l v h⟩

set_option maxHeartbeats 4000000 in
theorem slices_Contains_int (k : Nat) (l : List Int) (v : Int) (hpre : l.length ≤ 140737488351232) : CallsT Try.prog [] F.slices_Contains_int [.sl false k l.length 1 (rowT i64C l), .v (.int .i64 v)] (.v (.bool (decide (v ∈ l)))) [] := by
  refine fnT C.slices_Contains_int ?_
  refine run ?_
  exact r_endb findBy_mem
instance (k : Nat) (l : List Int) (v : Int) : Con Try.prog F.slices_Contains_int [.sl false k l.length 1 (rowT i64C l), .v (.int .i64 v)] (l.length ≤ 140737488351232) (.v (.bool (decide (v ∈ l)))) [] := ⟨fun h => slices_Contains_int k l v h⟩

set_option maxHeartbeats 4000000 in
theorem slices_Equal_int (k k2 : Nat) (a b : List Int) (hpre : a.length ≤ 140737488351232 ∧ b.length ≤ 140737488351232) : CallsT Try.prog [] F.slices_Equal_int [.sl false k a.length 1 (rowT i64C a), .sl false k2 b.length 1 (rowT i64C b)] (.v (.bool (decide (a = b)))) [] := by
  refine fnT C.slices_Equal_int ?_
  refine run ?_
  refine r_ifd (fun h => ?_) (fun h => ?_)
  · refine run ?_
    refine r_endF ?_
    intro e
    rw [e] at h
    exact h rfl
  have hl : a.length = b.length := by omega
  refine run ?_
  refine r_for a.length (fun i => [(0, .sl false k a.length 1 (rowT i64C a)), (1, .sl false k2 b.length 1 (rowT i64C b)), (12, .v (.int .i64 a.length)), (13, .v (.int .i64 i))]) (fun _ => []) (fun i => ∀ j, j < i → nth a (j : Nat) = nth b (j : Nat)) [] [] all_0 Gc.of (fun i hi hv => ?_) (fun hv => ?_)
  · refine run ?_
    refine r_ifd (fun h => ?_) (fun h => ?_)
    · refine run ?_
      refine r_endF ?_
      intro e
      rw [e] at h
      exact h rfl
    · refine run ?_
      exact ⟨[], [], Gc.of, all_step hv (Decidable.not_not.1 h)⟩
  · refine run ?_
    exact r_endT (ext_nth hl hv)
instance (k k2 : Nat) (a b : List Int) : Con Try.prog F.slices_Equal_int [.sl false k a.length 1 (rowT i64C a), .sl false k2 b.length 1 (rowT i64C b)] (a.length ≤ 140737488351232 ∧ b.length ≤ 140737488351232) (.v (.bool (decide (a = b)))) [] := ⟨fun h => slices_Equal_int k k2 a b h⟩

set_option maxHeartbeats 4000000 in
theorem spec_l7Has (k : Nat) (l : List Int) (v : Int) (hpre : l.length ≤ 140737488351232) : CallsT Try.prog [] F.spec_l7Has [.sl false k l.length 1 (rowT i64C l), .v (.int .i64 v)] (.v (.bool (decide (v ∈ l)))) [] := by
  refine fnT C.spec_l7Has ?_
  refine run ?_
  refine r_for l.length (fun i => [(0, .sl false k l.length 1 (rowT i64C l)), (1, .v (.int .i64 v)), (5, .v (.int .i64 i))]) (fun _ => []) (fun i => ∀ j, j < i → ¬ nth l (j : Nat) = v) [] [] all_0 Gc.of (fun i hi hv => ?_) (fun hv => ?_)
  · refine run ?_
    refine r_ifd (fun h => ?_) (fun h => ?_)
    · refine run ?_
      exact r_endT (h ▸ nth_mem hi)
    · refine run ?_
      exact ⟨[], [], Gc.of, all_step hv h⟩
  · refine run ?_
    refine r_endF fun hm => ?_
    obtain ⟨i, hi, e⟩ := List.mem_iff_getElem.1 hm
    exact hv i hi (by rw [nth_nat hi]; exact e)
instance (k : Nat) (l : List Int) (v : Int) : Con Try.prog F.spec_l7Has [.sl false k l.length 1 (rowT i64C l), .v (.int .i64 v)] (l.length ≤ 140737488351232) (.v (.bool (decide (v ∈ l)))) [] := ⟨fun h => spec_l7Has k l v h⟩

/-- Nodes in order, each below a number. -/
def nodeP (of : Int) (l : List Int) (i : Nat) : Prop := (0 ≤ nth l (i : Nat) ∧ nth l (i : Nat) ≤ wrap64 (of - 1)) ∧ ¬ ((0 : Int) < i ∧ nth l (i : Nat) ≤ nth l ((i : Int) - 1))
instance (of : Int) (l : List Int) (i : Nat) : Decidable (nodeP of l i) := inferInstanceAs (Decidable (_ ∧ _))
def nodesP (of : Int) (l : List Int) : Prop := ∀ i, i < l.length → nodeP of l i
instance (of : Int) (l : List Int) : Decidable (nodesP of l) := inferInstanceAs (Decidable (∀ _, _ → _))

set_option maxHeartbeats 4000000 in
theorem impl_nodesAscend (k : Nat) (l : List Int) (of : Int) (hpre : l.length ≤ 140737488351232) : CallsT Try.prog [] F.impl_nodesAscend [.sl false k l.length 1 (rowT i64C l), .v (.int .i64 of)] (.v (.bool (decide (nodesP of l)))) [] := by
  refine fnT C.impl_nodesAscend ?_
  refine run ?_
  refine r_for l.length (fun i => [(0, .sl false k l.length 1 (rowT i64C l)), (1, .v (.int .i64 of)), (7, .sl false k l.length 1 (rowT i64C l)), (8, .v (.int .i64 l.length)), (9, .v (.int .i64 i))]) (fun _ => []) (fun i => ∀ j, j < i → nodeP of l j) [] [] all_0 Gc.of (fun i hi hv => ?_) (fun hv => ?_)
  · refine run ?_
    refine r_ifd (fun h => ?_) (fun h => ?_)
    · refine run ?_
      refine r_endF ?_
      intro hp
      have := hp i hi
      unfold nodeP at this
      grind
    · refine run ?_
      exact ⟨[], [], Gc.of, all_step hv (by unfold nodeP; grind)⟩
  · refine run ?_
    exact r_endT hv
instance (k : Nat) (l : List Int) (of : Int) : Con Try.prog F.impl_nodesAscend [.sl false k l.length 1 (rowT i64C l), .v (.int .i64 of)] (l.length ≤ 140737488351232) (.v (.bool (decide (nodesP of l)))) [] := ⟨fun h => impl_nodesAscend k l of h⟩

set_option maxHeartbeats 4000000 in
theorem spec_l7Nodes (k : Nat) (l : List Int) (of : Int) (hpre : l.length ≤ 140737488351232) : CallsT Try.prog [] F.spec_l7Nodes [.sl false k l.length 1 (rowT i64C l), .v (.int .i64 of)] (.v (.bool (decide (nodesP of l)))) [] := by
  refine fnT C.spec_l7Nodes ?_
  refine run ?_
  refine r_for l.length (fun i => [(0, .sl false k l.length 1 (rowT i64C l)), (1, .v (.int .i64 of)), (5, .v (.int .i64 i))]) (fun _ => []) (fun i => ∀ j, j < i → nodeP of l j) [] [] all_0 Gc.of (fun i hi hv => ?_) (fun hv => ?_)
  · refine run ?_
    refine r_ifd (fun h => ?_) (fun h => ?_)
    · refine run ?_
      refine r_endF ?_
      intro hp
      have := hp i hi
      unfold nodeP at this
      grind
    · refine run ?_
      exact ⟨[], [], Gc.of, all_step hv (by unfold nodeP; grind)⟩
  · refine run ?_
    exact r_endT hv
instance (k : Nat) (l : List Int) (of : Int) : Con Try.prog F.spec_l7Nodes [.sl false k l.length 1 (rowT i64C l), .v (.int .i64 of)] (l.length ≤ 140737488351232) (.v (.bool (decide (nodesP of l)))) [] := ⟨fun h => spec_l7Nodes k l of h⟩

/-- So many numbers, each between two. -/
def numsP (l : List Int) (count lo hi : Int) : Prop := (l.length : Int) = count ∧ ∀ i, i < l.length → (lo ≤ nth l (i : Nat) ∧ nth l (i : Nat) ≤ hi)
instance (l : List Int) (count lo hi : Int) : Decidable (numsP l count lo hi) := inferInstanceAs (Decidable (_ ∧ _))

set_option maxHeartbeats 4000000 in
theorem impl_numbersIn (k : Nat) (l : List Int) (count lo hi : Int) (hpre : l.length ≤ 140737488351232) : CallsT Try.prog [] F.impl_numbersIn [.sl false k l.length 1 (rowT i64C l), .v (.int .i64 count), .v (.int .i64 lo), .v (.int .i64 hi)] (.v (.bool (decide (numsP l count lo hi)))) [] := by
  refine fnT C.impl_numbersIn ?_
  refine run ?_
  refine r_for l.length (fun i => [(0, .sl false k l.length 1 (rowT i64C l)), (1, .v (.int .i64 count)), (2, .v (.int .i64 lo)), (3, .v (.int .i64 hi)), (11, .sl false k l.length 1 (rowT i64C l)), (12, .v (.int .i64 l.length)), (13, .v (.int .i64 i))]) (fun _ => []) (fun i => ∀ j, j < i → (lo ≤ nth l (j : Nat) ∧ nth l (j : Nat) ≤ hi)) [] [] all_0 Gc.of (fun i hi hv => ?_) (fun hv => ?_)
  · refine run ?_
    refine r_ifd (fun h => ?_) (fun h => ?_)
    · refine run ?_
      refine r_endF ?_
      intro hp
      exact h (hp.2 i hi)
    · refine run ?_
      exact ⟨[], [], Gc.of, all_step hv (Decidable.not_not.1 h)⟩
  · refine run ?_
    exact r_endb ⟨fun h => ⟨h, hv⟩, fun h => h.1⟩
instance (k : Nat) (l : List Int) (count lo hi : Int) : Con Try.prog F.impl_numbersIn [.sl false k l.length 1 (rowT i64C l), .v (.int .i64 count), .v (.int .i64 lo), .v (.int .i64 hi)] (l.length ≤ 140737488351232) (.v (.bool (decide (numsP l count lo hi)))) [] := ⟨fun h => impl_numbersIn k l count lo hi h⟩

set_option maxHeartbeats 4000000 in
theorem impl_isOf (x : Int) : CallsT Try.prog [] F.impl_isOf [.v (.int .i64 x)] (.v (.bool (decide (x = 1 ∨ x = 3 ∨ x = 5)))) [] := by
  refine fnT C.impl_isOf ?_
  refine run ?_
  refine r_endb ?_
  omega
instance (x : Int) : Con Try.prog F.impl_isOf [.v (.int .i64 x)] True (.v (.bool (decide (x = 1 ∨ x = 3 ∨ x = 5)))) [] := ⟨fun _ => impl_isOf x⟩

set_option maxHeartbeats 4000000 in
theorem spec_l7Of (x : Int) : CallsT Try.prog [] F.spec_l7Of [.v (.int .i64 x)] (.v (.bool (decide (x = 1 ∨ x = 3 ∨ x = 5)))) [] := by
  refine fnT C.spec_l7Of ?_
  refine run ?_
  refine r_endb ?_
  omega
instance (x : Int) : Con Try.prog F.spec_l7Of [.v (.int .i64 x)] True (.v (.bool (decide (x = 1 ∨ x = 3 ∨ x = 5)))) [] := ⟨fun _ => spec_l7Of x⟩

set_option maxHeartbeats 4000000 in
theorem impl_isWhole (x : Int) : CallsT Try.prog [] F.impl_isWhole [.v (.int .i64 x)] (.v (.bool (decide (0 ≤ x ∧ x ≤ 1000000000)))) [] := by
  refine fnT C.impl_isWhole ?_
  refine run ?_
  exact r_end [] []
instance (x : Int) : Con Try.prog F.impl_isWhole [.v (.int .i64 x)] True (.v (.bool (decide (0 ≤ x ∧ x ≤ 1000000000)))) [] := ⟨fun _ => impl_isWhole x⟩

set_option maxHeartbeats 4000000 in
theorem spec_l1Whole (x : Int) : CallsT Try.prog [] F.spec_l1Whole [.v (.int .i64 x)] (.v (.bool (decide (0 ≤ x ∧ x ≤ 1000000000)))) [] := by
  refine fnT C.spec_l1Whole ?_
  refine run ?_
  exact r_end [] []
instance (x : Int) : Con Try.prog F.spec_l1Whole [.v (.int .i64 x)] True (.v (.bool (decide (0 ≤ x ∧ x ≤ 1000000000)))) [] := ⟨fun _ => spec_l1Whole x⟩

end Go.TL
