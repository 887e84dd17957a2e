/- Deeds are read from lines, in plain words. No conditions. -/
import Derived.Test.YtneiifghegdfgaaDoorJU1U2
import Derived.Test.YtneiifghegdfgaaDoorU3
namespace Go.TL
set_option linter.unusedSimpArgs false
open Go.Proofs Go.RowKit
attribute [local irreducible] wpOpsT wpT EndT Ex.seq Ex.block W

/-- The kind that a word says; 0: none. -/
def kindOf (w : ByteArray) : Int := 1 + findBy (fun x => decide (w = x)) wordsB
/-- The same, as a loop over the kinds finds it. -/
def kindSt (w : ByteArray) : Nat → Int
  | 0 => 0
  | i + 1 => if w = nameB ((i : Int) + 1) then (i : Int) + 1 else kindSt w i
theorem kindSt_at : ∀ i, i < 14 → kindSt (nth wordsB (i : Nat)) 14 = (i : Int) + 1 ∧ findBy (fun x => decide (nth wordsB (i : Nat) = x)) wordsB = (i : Nat) := by decide +kernel
theorem kindSt_no {w : ByteArray} (h : ∀ i : Nat, i < 14 → ¬ w = nth wordsB (i : Nat)) : ∀ i, i ≤ 14 → kindSt w i = 0
  | 0, _ => rfl
  | i + 1, hi => by
    rw [kindSt, if_neg]
    · exact kindSt_no h i (by omega)
    · rw [nameB, if_pos (by omega), show ((i : Int) + 1 - 1) = (i : Nat) by omega]
      exact h i (by omega)
theorem kindSt_of (w : ByteArray) : kindSt w 14 = kindOf w := by
  by_cases h : ∃ i : Nat, i < 14 ∧ w = nth wordsB (i : Nat)
  · obtain ⟨i, hi, rfl⟩ := h
    obtain ⟨h1, h2⟩ := kindSt_at i hi
    rw [h1, kindOf, h2]
    omega
  · have h : ∀ i : Nat, i < 14 → ¬ w = nth wordsB (i : Nat) := fun i hi e => h ⟨i, hi, e⟩
    rw [kindSt_no h 14 (Nat.le_refl _), kindOf, findBy_no (fun j hj hh => h j (by rw [words_len] at hj; exact hj) (of_decide_eq_true hh))]
    rfl
theorem kindOf_b (w : ByteArray) : 0 ≤ kindOf w ∧ kindOf w ≤ 14 := by
  have := findBy_b (fun x => decide (w = x)) wordsB
  rw [words_len] at this
  unfold kindOf
  omega

/-- A deed behind the first of its fields. -/
def zeroD : DeedV := ⟨0, 0, 0, 0, 0, ⟨#[]⟩⟩
def parseSt (k : Int) (ws : List ByteArray) : Nat → DeedV
  | 0 => { zeroD with kind := k }
  | i + 1 => setV (parseSt k ws i) (nth (strL (formB k)) (i : Nat)) (nth ws ((i + 1 : Nat) : Int))
def fieldsOk (k : Int) (ws : List ByteArray) (n : Nat) : Prop := ∀ j, j < n → setOk (nth (strL (formB k)) (j : Nat)) (nth ws ((j + 1 : Nat) : Int))
instance (k : Int) (ws : List ByteArray) (n : Nat) : Decidable (fieldsOk k ws n) := inferInstanceAs (Decidable (∀ _, _ → _))
def deedOkV (d : DeedV) : Prop := deedP d.kind d.at_ d.to d.rel d.part d.text
instance (d : DeedV) : Decidable (deedOkV d) := inferInstanceAs (Decidable (deedP _ _ _ _ _ _))
/-- What a line says. -/
def parseW (ws : List ByteArray) : DeedV × Int :=
  if kindOf (nth ws 0) = 0 then (zeroD, 2)
  else if ¬ ws.length = (formB (kindOf (nth ws 0))).size + 1 then (zeroD, 3)
  else if ¬ fieldsOk (kindOf (nth ws 0)) ws (formB (kindOf (nth ws 0))).size then (zeroD, 4)
  else if ¬ deedOkV (parseSt (kindOf (nth ws 0)) ws (formB (kindOf (nth ws 0))).size) then (zeroD, 5)
  else (parseSt (kindOf (nth ws 0)) ws (formB (kindOf (nth ws 0))).size, 0)
def parseV (s : ByteArray) : DeedV × Int := if 20000 < (s.size : Int) then (zeroD, 1) else parseW (wordsOf s)

end Go.TL
