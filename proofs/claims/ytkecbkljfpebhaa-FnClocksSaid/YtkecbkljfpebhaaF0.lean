/- Rows: all of them, one of them, like ones. No conditions but those that are written. -/
import Derived.Test.YtkecbkljfpebhaaA1
import Derived.Test.YtkecbkljfpebhaaTGet
import Derived.Test.YtkecbkljfpebhaaTClo
namespace Go.TL
set_option linter.unusedSimpArgs false
open Go.Proofs Go.RowKit
attribute [local irreducible] wpOpsT wpT EndT Ex.seq Ex.block W

theorem all_step {p : Nat → Prop} {i : Nat} (hv : ∀ j, j < i → p j) (h : p i) : ∀ j, j < i + 1 → p j := fun j hj => by
  rcases Nat.lt_or_ge j i with hlt | hge
  · exact hv j hlt
  · obtain rfl : j = i := by omega
    exact h
theorem all_0 {p : Nat → Prop} : ∀ j, j < 0 → p j := fun _ hj => absurd hj (Nat.not_lt_zero _)
theorem ext_nth {α : Type} [Inhabited α] {a b : List α} (hl : a.length = b.length) (h : ∀ j, j < a.length → nth a (j : Nat) = nth b (j : Nat)) : a = b :=
  List.ext_getElem hl fun i h1 h2 => by
    have := h i h1
    rwa [nth_nat h1, nth_nat h2] at this

/-- The first place of a thing; -1 without one. -/
def findBy {α : Type} (p : α → Bool) (l : List α) : Int := if l.findIdx p < l.length then (l.findIdx p : Int) else -1
theorem findBy_at {α : Type} [Inhabited α] {p : α → Bool} {l : List α} {i : Nat} (hi : i < l.length) (h : p (nth l i) = true) (hv : ∀ j, j < i → ¬ p (nth l (j : Nat)) = true) : findBy p l = i := by
  have e : l.findIdx p = i := by
    rw [List.findIdx_eq hi]
    rw [nth_nat hi] at h
    refine ⟨h, fun j hj => ?_⟩
    have := hv j hj
    rw [nth_nat (by omega)] at this
    simpa using this
  unfold findBy
  rw [e, if_pos hi]
theorem findBy_no {α : Type} [Inhabited α] {p : α → Bool} {l : List α} (hv : ∀ j, j < l.length → ¬ p (nth l (j : Nat)) = true) : findBy p l = -1 := by
  unfold findBy
  rw [if_neg]
  intro h
  have h2 := List.findIdx_getElem (w := h)
  have := hv _ h
  rw [nth_nat h] at this
  exact this h2
theorem findBy_b {α : Type} (p : α → Bool) (l : List α) : -1 ≤ findBy p l ∧ findBy p l < l.length := by unfold findBy; split <;> omega
theorem findBy_hit {α : Type} [Inhabited α] {p : α → Bool} {l : List α} (h : 0 ≤ findBy p l) : p (nth l (findBy p l)) = true := by
  unfold findBy at h ⊢
  split at h
  · rename_i h1
    rw [if_pos h1, nth_nat h1]
    exact List.findIdx_getElem (w := h1)
  · omega
theorem findBy_mem {l : List Int} {v : Int} : 0 ≤ findBy (fun x => decide (v = x)) l ↔ v ∈ l := by
  constructor
  · intro h
    have h2 := findBy_hit h
    have h3 := findBy_b (fun x => decide (v = x)) l
    have h4 : (findBy (fun x => decide (v = x)) l).toNat < l.length := by omega
    have h5 := nth_mem (l := l) h4
    rw [nth_toNat] at h5
    rw [of_decide_eq_true h2]; exact h5
  · intro h
    obtain ⟨i, hi, rfl⟩ := List.mem_iff_getElem.1 h
    have : l.findIdx (fun x => decide (l[i] = x)) < l.length := List.findIdx_lt_length_of_exists ⟨l[i], List.getElem_mem hi, by simp⟩
    unfold findBy
    rw [if_pos this]; omega

/-- Nodes in order, each below a number. -/
def nodeP (of : Int) (l : List Int) (i : Nat) : Prop := (0 ≤ nth l (i : Nat) ∧ nth l (i : Nat) ≤ wrap64 (of - 1)) ∧ ¬ ((0 : Int) < i ∧ nth l (i : Nat) ≤ nth l ((i : Int) - 1))
instance (of : Int) (l : List Int) (i : Nat) : Decidable (nodeP of l i) := inferInstanceAs (Decidable (_ ∧ _))
def nodesP (of : Int) (l : List Int) : Prop := ∀ i, i < l.length → nodeP of l i
instance (of : Int) (l : List Int) : Decidable (nodesP of l) := inferInstanceAs (Decidable (∀ _, _ → _))

/-- So many numbers, each between two. -/
def numsP (l : List Int) (count lo hi : Int) : Prop := (l.length : Int) = count ∧ ∀ i, i < l.length → (lo ≤ nth l (i : Nat) ∧ nth l (i : Nat) ≤ hi)
instance (l : List Int) (count lo hi : Int) : Decidable (numsP l count lo hi) := inferInstanceAs (Decidable (_ ∧ _))

end Go.TL
