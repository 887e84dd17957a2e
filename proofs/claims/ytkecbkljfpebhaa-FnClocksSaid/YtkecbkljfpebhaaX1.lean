/- Tables of zones: what is right, both sides. No conditions but those that are written. -/
import Derived.Test.YtkecbkljfpebhaaF0
namespace Go.TL
set_option linter.unusedSimpArgs false
open Go.Proofs Go.RowKit
attribute [local irreducible] wpOpsT wpT EndT Ex.seq Ex.block W

structure ShiftV where
  at' : Int
  off : Int
instance : Inhabited ShiftV := ⟨⟨0, 0⟩⟩
def shiftC (x : ShiftV) : List T := [.v (.int .i64 (x.at')), .v (.int .i64 x.off)]
instance : RowE shiftC 2 := ⟨⟨fun _ => rfl, fun _ => rfl⟩⟩
instance : RowF shiftC := ⟨fun _ => rfl⟩
instance : RowV shiftC := ⟨fun _ => rfl⟩
attribute [go_sem] shiftC

/-- What clocks are ahead of before a shift. -/
def offB (f : Int) (l : List ShiftV) (i : Nat) : Int := if i = 0 then f else (nth l ((i : Int) - 1)).off
theorem offB_s (f : Int) (l : List ShiftV) (i : Nat) : offB f l (i + 1) = (nth l (i : Nat)).off := by
  rw [offB, if_neg (by omega), show (((i + 1 : Nat) : Int) - 1) = (i : Nat) by omega]
def shiftP (f : Int) (l : List ShiftV) (i : Nat) : Prop := (-1000000000 ≤ (nth l (i : Nat)).at' ∧ (nth l (i : Nat)).at' ≤ 1000000000) ∧ ¬ ((0 : Int) < i ∧ (nth l (i : Nat)).at' ≤ (nth l ((i : Int) - 1)).at') ∧ (-2000 ≤ (nth l (i : Nat)).off ∧ (nth l (i : Nat)).off ≤ 2000) ∧ ¬ (nth l (i : Nat)).off = offB f l i
instance (f : Int) (l : List ShiftV) (i : Nat) : Decidable (shiftP f l i) := inferInstanceAs (Decidable (_ ∧ _))
/-- What a table must be. -/
def tableP (f : Int) (l : List ShiftV) : Prop := (-2000 ≤ f ∧ f ≤ 2000) ∧ l.length ≤ 300 ∧ ∀ i, i < l.length → shiftP f l i
instance (f : Int) (l : List ShiftV) : Decidable (tableP f l) := inferInstanceAs (Decidable (_ ∧ _))

set_option maxHeartbeats 4000000 in
theorem impl_isOff (x : Int) : CallsT Try.prog [] F.impl_isOff [.v (.int .i64 x)] (.v (.bool (decide (-2000 ≤ x ∧ x ≤ 2000)))) [] := by
  refine fnT C.impl_isOff ?_
  refine run ?_
  exact r_end [] []
instance (x : Int) : Con Try.prog F.impl_isOff [.v (.int .i64 x)] True (.v (.bool (decide (-2000 ≤ x ∧ x ≤ 2000)))) [] := ⟨fun _ => impl_isOff x⟩

set_option maxHeartbeats 4000000 in
theorem impl_isMinute (x : Int) : CallsT Try.prog [] F.impl_isMinute [.v (.int .i64 x)] (.v (.bool (decide (-1000000000 ≤ x ∧ x ≤ 1000000000)))) [] := by
  refine fnT C.impl_isMinute ?_
  refine run ?_
  exact r_end [] []
instance (x : Int) : Con Try.prog F.impl_isMinute [.v (.int .i64 x)] True (.v (.bool (decide (-1000000000 ≤ x ∧ x ≤ 1000000000)))) [] := ⟨fun _ => impl_isMinute x⟩

set_option maxHeartbeats 4000000 in
theorem impl_TableOk (k : Nat) (f : Int) (l : List ShiftV) (hpre : l.length ≤ 1000000000) : CallsT Try.prog [] F.impl_TableOk [.agg [.v (.int .i64 f), .sl false k l.length 2 (rowT shiftC l)]] (.v (.bool (decide (tableP f l)))) [] := by
  refine fnT C.impl_TableOk ?_
  refine run ?_
  refine r_for l.length (fun i => [(1, .ptr 0 [] 0), (3, .v (.int .i64 (offB f l i))), (9, .sl false k l.length 2 (rowT shiftC l)), (10, .v (.int .i64 l.length)), (11, .v (.int .i64 i))]) (fun _ => [⟨0, true, [.v (.int .i64 f), .sl false k l.length 2 (rowT shiftC l)]⟩]) (fun i => ∀ j, j < i → shiftP f l j) [0] [] all_0 Gc.of (fun i hi hv => ?_) (fun hv => ?_)
  · refine run ?_
    refine r_ifd (fun h => ?_) (fun h => ?_)
    · refine run ?_
      refine r_endF ?_
      intro hp
      have := hp.2.2 i hi
      unfold shiftP at this
      grind
    · rw [offB_s]
      refine run ?_
      exact ⟨[0], [], Gc.of, all_step hv (by unfold shiftP; grind)⟩
  · refine run ?_
    refine r_endb ?_
    exact ⟨fun h => ⟨h.1, by omega, hv⟩, fun h => ⟨h.1, by have := h.2.1; omega⟩⟩
instance (k : Nat) (f : Int) (l : List ShiftV) : Con Try.prog F.impl_TableOk [.agg [.v (.int .i64 f), .sl false k l.length 2 (rowT shiftC l)]] (l.length ≤ 1000000000) (.v (.bool (decide (tableP f l)))) [] := ⟨fun h => impl_TableOk k f l h⟩

set_option maxHeartbeats 4000000 in
theorem spec_TableOk (k : Nat) (f : Int) (l : List ShiftV) (hpre : l.length ≤ 1000000000) : CallsT Try.prog [] F.spec_TableOk [.agg [.v (.int .i64 f), .sl false k l.length 2 (rowT shiftC l)]] (.v (.bool (decide (tableP f l)))) [] := by
  refine fnT C.spec_TableOk ?_
  refine run ?_
  refine r_ifd (fun h => ?_) (fun h => ?_)
  · refine run ?_
    refine r_endF ?_
    intro hp
    have h1 := hp.1
    have h2 := hp.2.1
    omega
  refine run ?_
  refine r_for l.length (fun i => [(1, .ptr 0 [] 0), (3, .v (.int .i64 (offB f l i))), (4, .v (.int .i64 i))]) (fun _ => [⟨0, true, [.v (.int .i64 f), .sl false k l.length 2 (rowT shiftC l)]⟩]) (fun i => ∀ j, j < i → shiftP f l j) [0] [] all_0 Gc.of (fun i hi hv => ?_) (fun hv => ?_)
  · refine run ?_
    refine r_ifd (fun h => ?_) (fun h => ?_)
    · refine run ?_
      refine r_endF ?_
      intro hp
      have := hp.2.2 i hi
      unfold shiftP at this
      grind
    · rw [offB_s]
      refine run ?_
      exact ⟨[0], [], Gc.of, all_step hv (by unfold shiftP; grind)⟩
  · refine run ?_
    exact r_endT ⟨by omega, by omega, hv⟩
instance (k : Nat) (f : Int) (l : List ShiftV) : Con Try.prog F.spec_TableOk [.agg [.v (.int .i64 f), .sl false k l.length 2 (rowT shiftC l)]] (l.length ≤ 1000000000) (.v (.bool (decide (tableP f l)))) [] := ⟨fun h => spec_TableOk k f l h⟩

end Go.TL
