/- Bytes as digits of sixteen. No conditions but those that are written. -/
import Derived.Test.YtneiifghegdfgaaA1
import Derived.Test.YtneiifghegdfgaaN1
import Derived.Test.YtneiifghegdfgaaTGet
namespace Go.TL
set_option linter.unusedSimpArgs false
open Go.Proofs Go.RowKit
attribute [local irreducible] wpOpsT wpT EndT Ex.seq Ex.block W

def hexD : ByteArray := ⟨#[48, 49, 50, 51, 52, 53, 54, 55, 56, 57, 97, 98, 99, 100, 101, 102]⟩
def dig16 (x : Int) : Int := nth (strL hexD) x
@[go_sem] theorem dig16_eq (x : Int) : nth (strL ⟨#[48, 49, 50, 51, 52, 53, 54, 55, 56, 57, 97, 98, 99, 100, 101, 102]⟩) x = dig16 x := rfl
@[go_sem] theorem hexD_size : (⟨#[48, 49, 50, 51, 52, 53, 54, 55, 56, 57, 97, 98, 99, 100, 101, 102]⟩ : ByteArray).size = 16 := rfl
theorem dig16_b (x : Int) : 0 ≤ dig16 x ∧ dig16 x < 256 := by
  unfold dig16 nth
  rcases Nat.lt_or_ge x.toNat 16 with h | h
  · have : ∀ i : Fin 16, 0 ≤ (strL hexD).getD i.val default ∧ (strL hexD).getD i.val default < 256 := by decide +kernel
    exact this ⟨x.toNat, h⟩
  · rw [List.getD_eq_getElem?_getD, List.getElem?_eq_none (by rw [strL_length]; exact h)]; decide
def hexL (l : List Int) : List Int := l.flatMap fun x => [dig16 (x / 16), dig16 (x % 16)]
theorem hexL_take {l : List Int} {i : Nat} (h : i < l.length) : hexL (l.take i) ++ lit2 (dig16 (nth l i / 16)) (dig16 (nth l i % 16)) = hexL (l.take (i + 1)) := by
  rw [take_nth h]; simp [hexL, lit2]
theorem hexL_len : ∀ l : List Int, (hexL l).length = 2 * l.length
  | [] => rfl
  | x :: l => by
    have := hexL_len l
    simp only [hexL, List.flatMap_cons, List.length_append, List.length_cons, List.length_nil] at this ⊢
    omega
def bytesP (l : List Int) : Prop := ∀ x ∈ l, 0 ≤ x ∧ x < 256
theorem bytesP_str (s : ByteArray) : bytesP (strL s) := by
  intro x hx
  obtain ⟨b, _, rfl⟩ := List.mem_map.1 hx
  have := b.toNat_lt
  omega
theorem bytesP_nth {l : List Int} (h : bytesP l) (x : Int) : 0 ≤ nth l x ∧ nth l x < 256 := by
  rcases Nat.lt_or_ge x.toNat l.length with hl | hl
  · have := nth_mem (l := l) (i := x.toNat) hl
    rw [nth_toNat] at this
    exact h _ this
  · unfold nth
    rw [List.getD_eq_getElem?_getD, List.getElem?_eq_none hl]; decide
/-- Bytes in digits; too many: none. -/
def hexB (l : List Int) : ByteArray := if (l.length : Int) > 4000 then ⟨#[]⟩ else strOfT (hexL l)
theorem and64_15 {x : Int} (h : 0 ≤ x ∧ x < 9223372036854775808) : and64 x 15 = x % 16 := and64_mask 4 (by decide) x h.1 (by omega) 15 rfl
attribute [local go_sem] and64_15

theorem shr_u8 {x : Int} (h : 0 ≤ x ∧ x < 256) : IntKind.u8.wrap (x.tdiv 16) = x / 16 := by
  rw [Int.tdiv_eq_ediv_of_nonneg h.1, IntKind.wrap_u8]; omega
theorem b_quo8 (P : Program) (t : TypeId) (xo yo : Operand) (a b : Int) (h : b ≠ 0) : binT P .quo t xo yo (.v (.int .u8 a)) (.v (.int .u8 b)) = some (.v (.int .u8 (IntKind.u8.wrap (a.tdiv b)))) := by simp [binT, toV, eqGuard, binOp, Op.intDiv, ofV, h]
theorem b_rem8 (P : Program) (t : TypeId) (xo yo : Operand) (a b : Int) (h : b ≠ 0) : binT P .rem t xo yo (.v (.int .u8 a)) (.v (.int .u8 b)) = some (.v (.int .u8 (a.tmod b))) := by simp [binT, toV, eqGuard, binOp, Op.intDiv, ofV, h]
attribute [go_sem] b_quo8 b_rem8

end Go.TL
