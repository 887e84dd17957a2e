/- Fields of a deed are set from words; both sides. No conditions but those that are written. -/
import Derived.Test.YtneiifghegdfgaaDoorU0
import Derived.Test.YtneiifghegdfgaaDoorD3
import Derived.Test.YtneiifghegdfgaaDoorD6
import Derived.Test.YtneiifghegdfgaaDoorTLm
import Derived.Test.YtneiifghegdfgaaDoorG1
namespace Go.TL
set_option linter.unusedSimpArgs false
open Go.Proofs Go.RowKit
attribute [local irreducible] wpOpsT wpT EndT Ex.seq Ex.block W

/-- A word that says nothing. -/
abbrev dashB : ByteArray := ⟨#[45]⟩
/-- A deed with a field set from a word; whether the word is one. -/
def setV (d : DeedV) (c : Int) (w : ByteArray) : DeedV :=
  if c = 120 then (if w = dashB then d else { d with text := strOfT (unhexV w) })
  else if c = 97 then { d with at_ := numB w 10 }
  else if c = 116 then { d with to := numB w 10 }
  else if c = 114 then { d with rel := numB w 10 }
  else { d with part := numB w 10 }
def setOk (c : Int) (w : ByteArray) : Prop := if c = 120 then (w = dashB ∨ (unhexOk w ∧ ¬ w = ⟨#[]⟩)) else numOk w 10
instance (c : Int) (w : ByteArray) : Decidable (setOk c w) := by unfold setOk; infer_instance

theorem setOk_x (w : ByteArray) : setOk 120 w ↔ (w = dashB ∨ (unhexOk w ∧ ¬ w = ⟨#[]⟩)) := by unfold setOk; rw [if_pos rfl]
theorem setOk_n {c : Int} {w : ByteArray} (h : ¬ c = 120) : decide (setOk c w) = decide (numOk w 10) := decide_eq_decide.2 (by unfold setOk; rw [if_neg h])
theorem setOk_1 {w : ByteArray} (h : ¬ w = dashB) : decide (setOk 120 w) = decide (unhexOk w ∧ ¬ w = ⟨#[]⟩) := decide_eq_decide.2 (by rw [setOk_x]; exact ⟨fun hh => hh.resolve_left h, .inr⟩)
theorem setOk_2 {w : ByteArray} (h : w = dashB) : decide (setOk 120 w) = true := decide_eq_true (by rw [setOk_x]; exact .inl h)

set_option maxHeartbeats 4000000 in
theorem impl_setField (d : DeedV) (c : Int) (w : ByteArray) (hc : formC c) (hw : w.size ≤ 100000000) : CallsT Tryd.prog [⟨0, true, deedC d⟩] F.impl_Deed_setField [.ptr 0 [] 0, .v (.int .u8 c), .v (.string w)] (.v (.bool (decide (setOk c w)))) [⟨0, true, deedC (setV d c w)⟩] := by
  unfold formC at hc
  refine fnT C.impl_Deed_setField ?_
  dsimp only [deedC]
  rcases hc with rfl | rfl | rfl | rfl | rfl
  case inr.inr.inr.inr =>
    rw [show setV d 120 w = _ from if_pos rfl]
    refine run ?_
    refine r_ifd (fun h2 => ?_) (fun h2 => ?_)
    · rw [if_neg h2, setOk_1 h2]
      refine run ?_
      exact r_end [0] [] (hm := keep_one _)
    · rw [if_pos (Decidable.not_not.1 h2), setOk_2 (Decidable.not_not.1 h2)]
      refine run ?_
      exact r_end [0] [] (hm := keep_one _)
  all_goals
    rw [setOk_n (by decide)]
    simp only [setV]
    repeat first | rw [if_neg (by decide)] | rw [if_pos rfl]
    refine run ?_
    exact r_end [0] [] (hm := keep_one _)

set_option maxHeartbeats 4000000 in
set_option maxHeartbeats 4000000 in
theorem spec_l17Field (k a t r p : Int) (x : ByteArray) (c : Int) (w : ByteArray) (hpre : formC c ∧ w.size ≤ 100000000) : CallsT Tryd.prog [] F.spec_l17Field [.agg [.v (.int .i64 k), .v (.int .i64 a), .v (.int .i64 t), .v (.int .i64 r), .v (.int .i64 p), .v (.string x)], .v (.int .u8 c), .v (.string w)] (.tup [.agg (deedC (setV ⟨k, a, t, r, p, x⟩ c w)), .v (.bool (decide (setOk c w)))]) [] := by
  refine fnT C.spec_l17Field ?_
  obtain ⟨hc, hw⟩ := hpre
  unfold formC at hc
  dsimp only [deedC]
  rcases hc with rfl | rfl | rfl | rfl | rfl
  case inr.inr.inr.inr =>
    rw [show setV ⟨k, a, t, r, p, x⟩ 120 w = _ from if_pos rfl]
    refine run ?_
    refine r_ifd (fun h2 => ?_) (fun h2 => ?_)
    · rw [if_pos h2, setOk_2 h2]
      refine run ?_
      exact r_end [] []
    · rw [if_neg h2, setOk_1 h2]
      refine run ?_
      exact r_end [] []
  all_goals
    rw [setOk_n (by decide)]
    simp only [setV]
    repeat first | rw [if_neg (by decide)] | rw [if_pos rfl]
    refine run ?_
    exact r_end [] []
instance (k a t r p : Int) (x : ByteArray) (c : Int) (w : ByteArray) : Con Tryd.prog F.spec_l17Field [.agg [.v (.int .i64 k), .v (.int .i64 a), .v (.int .i64 t), .v (.int .i64 r), .v (.int .i64 p), .v (.string x)], .v (.int .u8 c), .v (.string w)] (formC c ∧ w.size ≤ 100000000) (.tup [.agg (deedC (setV ⟨k, a, t, r, p, x⟩ c w)), .v (.bool (decide (setOk c w)))]) [] := ⟨fun h => spec_l17Field k a t r p x c w h⟩

end Go.TL
