/- Lines of deeds. No conditions but those that are written. -/
import Derived.Test.YtneiifghegdfgaaDoorD2
import Derived.Test.YtneiifghegdfgaaDoorH1
import Derived.Test.YtneiifghegdfgaaDoorB3
namespace Go.TL
set_option linter.unusedSimpArgs false
open Go.Proofs Go.RowKit
attribute [local irreducible] wpOpsT wpT EndT Ex.seq Ex.block W

def wordsB : List ByteArray := [⟨#[115, 116, 97, 110, 100]⟩, ⟨#[98, 101, 97, 116]⟩, ⟨#[100, 101, 108, 105, 118, 101, 114]⟩, ⟨#[100, 114, 111, 112]⟩, ⟨#[100, 111, 117, 98, 108, 101]⟩, ⟨#[109, 111, 118, 101]⟩, ⟨#[99, 114, 97, 115, 104]⟩, ⟨#[115, 116, 97, 114, 116]⟩, ⟨#[97, 110, 110, 111, 117, 110, 99, 101]⟩, ⟨#[119, 97, 110, 116]⟩, ⟨#[114, 101, 97, 100, 121]⟩, ⟨#[97, 99, 116, 105, 118, 97, 116, 101]⟩, ⟨#[97, 98, 111, 114, 116]⟩, ⟨#[116, 111, 114, 110]⟩]
/-- The word of a kind. -/
def nameB (k : Int) : ByteArray := if 1 ≤ k ∧ k ≤ 14 then nth wordsB (k - 1) else ⟨#[]⟩
theorem words_len : wordsB.length = 14 := rfl
theorem nameB_size (k : Int) : (nameB k).size ≤ 8 := by
  unfold nameB
  split
  · rename_i h
    have : ∀ i : Fin 14, (wordsB.getD i.val default).size ≤ 8 := by decide +kernel
    exact this ⟨(k - 1).toNat, by omega⟩
  · decide
/-- What stands behind it. -/
def formB (k : Int) : ByteArray := if k = 6 then ⟨#[97, 116]⟩ else if k = 7 ∨ k = 14 then ⟨#[97, 116, 112]⟩ else if k = 9 then ⟨#[97, 114, 116, 120]⟩ else if k = 10 then ⟨#[97, 114, 112, 116]⟩ else if k = 11 ∨ k = 12 ∨ k = 13 then ⟨#[97, 114, 116]⟩ else ⟨#[97]⟩
theorem formB_size (k : Int) : (formB k).size ≤ 4 := by unfold formB; (repeat' split) <;> decide
def formC (c : Int) : Prop := c = 97 ∨ c = 116 ∨ c = 114 ∨ c = 112 ∨ c = 120
theorem formB_mem (k : Int) (i : Nat) (h : i < (formB k).size) : formC (nth (strL (formB k)) i) := by
  have key : ∀ s : ByteArray, (∀ x ∈ strL s, formC x) → i < s.size → formC (nth (strL s) i) := fun s hs hi => hs _ (nth_mem (by rw [strL_length]; exact hi))
  refine key _ ?_ h
  unfold formB formC
  (repeat' split) <;> decide +kernel
set_option maxHeartbeats 4000000 in
theorem impl_deedWords  : CallsT Tryd.prog [] F.impl_deedWords [] (.sl false 0 wordsB.length 1 (rowT strC wordsB)) [] := by
  refine fnT C.impl_deedWords ?_
  refine r_seq ?_
  refine r_region ?_
  refine r_do ?_
  refine r_ops ?_
  refine x_seq_n ?_
  refine r_seq ?_
  refine r_region ?_
  refine r_lit (enc := strC) (k := 0) wordsB (S' := [] ++ [⟨1, true, rowT strC wordsB⟩]) ?_ (hs := by kernel_rfl)
  refine run ?_
  exact r_end [] [0]
instance  : Con Tryd.prog F.impl_deedWords [] True (.sl false 0 wordsB.length 1 (rowT strC wordsB)) [] := ⟨fun _ => impl_deedWords ⟩

set_option maxHeartbeats 4000000 in
theorem spec_l17Name (k : Int) : CallsT Tryd.prog [] F.spec_l17Name [.v (.int .i64 k)] (.v (.string (nameB k))) [] := by
  refine fnT C.spec_l17Name ?_
  refine run ?_
  refine r_ifd (fun h => ?_) (fun h => ?_)
  · rw [show nameB k = ⟨#[]⟩ from if_neg h]
    refine run ?_
    exact r_end [] []
  · have h := Decidable.not_not.1 h
    refine r_skip ?_
    refine x_seq_n ?_
    refine r_seq ?_
    refine r_region ?_
    refine r_lit (enc := strC) (k := 0) (⟨#[]⟩ :: wordsB) (S' := [] ++ [⟨1, true, rowT strC (⟨#[]⟩ :: wordsB)⟩]) ?_ (hs := by kernel_rfl)
    have hw : (⟨#[]⟩ :: wordsB : List ByteArray).length = 15 := rfl
    have e : nth (⟨#[]⟩ :: wordsB : List ByteArray) k = nameB k := by
      unfold nameB nth
      rw [if_pos h, show k.toNat = (k - 1).toNat + 1 by omega]; rfl
    rw [hw]
    refine run ?_
    exact r_endS e
instance (k : Int) : Con Tryd.prog F.spec_l17Name [.v (.int .i64 k)] True (.v (.string (nameB k))) [] := ⟨fun _ => spec_l17Name k⟩

set_option maxHeartbeats 4000000 in
theorem spec_l17Form (k : Int) : CallsT Tryd.prog [] F.spec_l17Form [.v (.int .i64 k)] (.v (.string (formB k))) [] := by
  refine fnT C.spec_l17Form ?_
  repeat' (refine run ?_; first | refine r_ifd (fun _ => ?_) (fun _ => ?_) | refine r_endS ?_)
  all_goals (unfold formB; grind)
instance (k : Int) : Con Tryd.prog F.spec_l17Form [.v (.int .i64 k)] True (.v (.string (formB k))) [] := ⟨fun _ => spec_l17Form k⟩

set_option maxHeartbeats 4000000 in
theorem impl_deedForm (k : Int) : CallsT Tryd.prog [] F.impl_deedForm [.v (.int .i64 k)] (.v (.string (formB k))) [] := by
  refine fnT C.impl_deedForm ?_
  repeat' (refine run ?_; first | refine r_ifd (fun _ => ?_) (fun _ => ?_) | refine r_endS ?_)
  all_goals (unfold formB; grind)
instance (k : Int) : Con Tryd.prog F.impl_deedForm [.v (.int .i64 k)] True (.v (.string (formB k))) [] := ⟨fun _ => impl_deedForm k⟩

/-- A field's text. -/
def fieldB (a t r p : Int) (s : ByteArray) (c : Int) : ByteArray := if c = 97 then itoaB a else if c = 116 then itoaB t else if c = 114 then itoaB r else if c = 112 then itoaB p else if s = ⟨#[]⟩ then ⟨#[45]⟩ else hexB (strL s)

set_option maxHeartbeats 4000000 in
theorem impl_fieldText (k a t r p : Int) (s : ByteArray) (c : Int) (hpre : (I64 a ∧ I64 t ∧ I64 r ∧ I64 p) ∧ s.size ≤ 100000000000000) : CallsT Tryd.prog [] F.impl_fieldText [.agg [.v (.int .i64 k), .v (.int .i64 a), .v (.int .i64 t), .v (.int .i64 r), .v (.int .i64 p), .v (.string s)], .v (.int .u8 c)] (.v (.string (fieldB a t r p s c))) [] := by
  refine fnT C.impl_fieldText ?_
  obtain ⟨⟨ha, ht, hr, hp⟩, hs⟩ := hpre
  unfold I64 at ha ht hr hp
  have hb := bytesP_str s
  have hl := strL_length s
  repeat' (refine run ?_; first | refine r_ifd (fun _ => ?_) (fun _ => ?_) | refine r_endS ?_)
  all_goals (unfold fieldB; grind)
instance (k a t r p : Int) (s : ByteArray) (c : Int) : Con Tryd.prog F.impl_fieldText [.agg [.v (.int .i64 k), .v (.int .i64 a), .v (.int .i64 t), .v (.int .i64 r), .v (.int .i64 p), .v (.string s)], .v (.int .u8 c)] ((I64 a ∧ I64 t ∧ I64 r ∧ I64 p) ∧ s.size ≤ 100000000000000) (.v (.string (fieldB a t r p s c))) [] := ⟨fun h => impl_fieldText k a t r p s c h⟩

end Go.TL
