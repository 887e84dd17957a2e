/- From a contract on trees to what a law's row asks. No conditions. -/
import Derived.Test.YtpkofjoifihhgaaTGo4
import Derived.ChangeKeysEq
namespace Go.TL
open Go.RowKit

def Env.start (w : World) (K : Nat → Nat → Prop) : Env := { w := w, S := [], φ := fun _ _ => 0, B := w.heap.size, N := w.heap.size, K := K }

theorem start_at {w : World} {K : Nat → Nat → Prop} {any : Bool} {r : Nat} {p : List Nat} {x : Nat × List T} : (Env.start w K).S.at any r p ≠ some x := by
  intro h; have := Store.at_lt h; simp [Env.start] at this

theorem start_inv (w : World) (K : Nat → Nat → Prop) : Inv (Env.start w K) w :=
  ⟨Below.refl _ _, Nat.le_refl _, Nat.le_refl _, fun _ _ _ _ h => absurd h start_at, fun _ _ _ _ _ _ h => absurd h start_at⟩

/-- A contract with plain arguments and a plain result. -/
theorem CallsT.plain {P : Program} {g : FuncId} {vals : List Value} {r : Value} {S1 : Store} (h : CallsT P [] g (vals.map .v) (.v r) S1) (w : World) : Calls P g vals.toArray w fun e w' => e = .returned r ∧ Below w.heap.size w w' := by
  refine (h.run (Env.start w fun _ _ => True) w vals.toArray rfl (start_inv _ _) (by simp) fun i t hi => ?_).mono fun e w' hh => ?_
  · rw [List.getElem?_map] at hi
    obtain ⟨v, hv, rfl⟩ := Option.map_eq_some_iff.1 hi
    rw [Array.getD_eq_getD_getElem?, List.getElem?_toArray, hv]
    exact .v _
  · obtain ⟨v, E', rfl, rfl, _, hI, hE, hT⟩ := hh
    have := hI.below
    rw [hE.B] at this
    cases hT
    exact ⟨rfl, this⟩

section
variable (P : Program) (t : TypeId) (xo yo : Operand) (a b : ByteArray)
theorem str_eq : (a.toList == b.toList) = decide (a = b) := by
  by_cases h : a = b
  · subst h; simp
  · rw [decide_eq_false h]
    simp only [beq_eq_false_iff_ne, ne_eq, ByteArray.toList_eq]
    intro hh
    exact h (ByteArray.ext (Array.toList_inj.mp hh))
theorem b_seql : binT P .eql t xo yo (.v (.string a)) (.v (.string b)) = some (.v (.bool (decide (a = b)))) := by
  simp [binT, toV, eqGuard, binOp, Op.stringOp, ofV, str_eq]
theorem b_sneq : binT P .neq t xo yo (.v (.string a)) (.v (.string b)) = some (.v (.bool (decide (a ≠ b)))) := by
  simp [binT, toV, eqGuard, binOp, Op.stringOp, ofV, str_eq]
end
attribute [go_sem] b_seql b_sneq

end Go.TL
