/- Reading rows. No conditions. -/
import Derived.Test.YtpkofjoifihhgaaTGo3
namespace Go.TL
open Go.RowKit

theorem rowT_get {α : Type} {enc : α → List T} {sz : Nat} (he : ∀ x, (enc x).length = sz) : ∀ (l : List α) (i : Nat) (y : α), l[i]? = some y → ∀ j, j < sz → (rowT enc l)[i * sz + j]? = (enc y)[j]?
  | [], i, y, h, j, _ => by simp at h
  | x :: l, 0, y, h, j, hj => by
    simp only [List.getElem?_cons_zero, Option.some.injEq] at h
    subst h
    rw [rowT_cons, Nat.zero_mul, Nat.zero_add, List.getElem?_append_left (by rw [he]; exact hj)]
  | x :: l, i + 1, y, h, j, hj => by
    have := rowT_get he l i y (by simpa using h) j hj
    rw [rowT_cons, List.getElem?_append_right (by rw [he, Nat.succ_mul]; omega), he, Nat.succ_mul]
    rw [← this]
    congr 1
    omega

section
variable {P : Program} {n : Nat} {S : Store} {fr : Nat → T} {ops : Array Oper} {d : Nat} {ty : TypeId} {pos : String} {aft : Array Edge} {rest : List Oper} {K : (Nat → T) → Store → Prop}

/-- The place of a thing in a frozen row. -/
theorem r_idx {gd : Option (Nat × Bool)} {t : TypeId} {x i : Operand} (j : Nat) {k m sz : Nat} {cs : List T} (hj : j < m) (h : wpOpsT P ops n rest K (upd fr d (.pz k cs (j * sz))) S)
    (hw : wantedT ops fr ⟨some d, .indexAddr t x i, ty, pos, aft, gd⟩ = some true := by rfl)
    (hx : TL.ev fr x = .sl false k m sz cs := by (first | (simp only [go_sem, Nat.reduceEqDiff, reduceCtorEq, if_false] <;> rfl) | rfl))
    (hi : TL.ev fr i = .v (.int .i64 (j : Int)) := by (first | (simp only [go_sem, Nat.reduceEqDiff, reduceCtorEq, if_false] <;> rfl) | rfl))
    {e : TypeId} (h1 : elemT P t = some e := by (simp only [go_sem]; rfl)) (h2 : szT P e = some sz := by (simp only [go_sem] <;> fail)) (h3 : Nat.blt 0 sz = true := by rfl) (hd : Nat.blt d n = true := by rfl) :
    wpOpsT P ops n (⟨some d, .indexAddr t x i, ty, pos, aft, gd⟩ :: rest) K fr S := by
  have hs : stepT P S fr ⟨some d, .indexAddr t x i, ty, pos, aft, gd⟩ = some (.pz k cs (j * sz), S) := by
    have h0 : 0 < sz := by simpa [Nat.blt_eq] using h3
    show (indexAddrT P S t (TL.ev fr x) (TL.ev fr i)).map (·, S) = _
    have hj' : (0 : Int) ≤ (j : Int) ∧ (j : Int) < (m : Int) := ⟨Int.natCast_nonneg j, by omega⟩
    rw [hx, hi]
    simp only [indexAddrT, h1, h2, hj', h0, and_self, if_true, Int.toNat_natCast]
    rfl
  simp only [wpOpsT, hw, calleeT, hs]
  exact ⟨by simpa [okDst, Nat.blt_eq] using hd, h⟩

theorem ld_1 {k : Nat} {α : Type} {enc : α → List T} (he : Enc enc 1) {l : List α} {j : Nat} {y : α} {c v : T} {t : TypeId} (hy : l[j]? = some y) (hc : enc y = [c]) (hv : loadZ k c = some v) (ha : aggT P t = some false) (hs : szT P t = some 1) :
    loadT P S t (.pz k (rowT enc l) (j * 1)) = some v := by
  have hg := rowT_get he.len l j y hy 0 (by decide)
  rw [hc, Nat.add_zero] at hg
  simp only [loadT, ha, hs]
  simp only [loadN, hg, Bool.false_eq_true, if_false, List.getElem?_cons_zero, hv]
  rfl

/-- A thing of one cell, read from a frozen row. -/
theorem r_ld {gd : Option (Nat × Bool)} {t : TypeId} {x : Operand} {k j : Nat} {α : Type} {enc : α → List T} {l : List α} (he : Enc enc 1) {y : α} (hy : l[j]? = some y) {c v : T} (h : wpOpsT P ops n rest K (upd fr d v) S)
    (hw : wantedT ops fr ⟨some d, .load t x, ty, pos, aft, gd⟩ = some true := by rfl)
    (hx : TL.ev fr x = .pz k (rowT enc l) (j * 1) := by (first | (simp only [go_sem, Nat.reduceEqDiff, reduceCtorEq, if_false] <;> rfl) | rfl))
    (hc : enc y = [c] := by rfl) (hv : loadZ k c = some v := by rfl) (ha : aggT P t = some false := by (simp only [go_sem] <;> fail)) (hs : szT P t = some 1 := by (simp only [go_sem] <;> fail)) (hd : Nat.blt d n = true := by rfl) :
    wpOpsT P ops n (⟨some d, .load t x, ty, pos, aft, gd⟩ :: rest) K fr S := by
  have hst : stepT P S fr ⟨some d, .load t x, ty, pos, aft, gd⟩ = some (v, S) := by
    show (loadT P S t (TL.ev fr x)).map (·, S) = _
    rw [hx, ld_1 he hy hc hv ha hs]
    rfl
  simp only [wpOpsT, hw, calleeT, hst]
  exact ⟨by simpa [okDst, Nat.blt_eq] using hd, h⟩
end

end Go.TL
