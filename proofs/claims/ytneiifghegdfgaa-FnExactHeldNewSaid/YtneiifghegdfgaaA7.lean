/- What is right of a list of helds. No conditions but those that are written. -/
import Derived.Test.YtneiifghegdfgaaA6
namespace Go.TL
set_option linter.unusedSimpArgs false
open Go.Proofs Go.RowKit
attribute [local irreducible] wpOpsT wpT EndT Ex.seq Ex.block W

def heldP (l : List HeldV) (i : Nat) : Prop := (1 ≤ (nth l i).rel ∧ (nth l i).rel ≤ 1000) ∧ ¬ ((0 : Int) < i ∧ (nth l i).rel ≤ (nth l ((i : Int) - 1)).rel) ∧ parcelP (nth l i).size (nth l i).dig (nth l i).parts
instance (l : List HeldV) (i : Nat) : Decidable (heldP l i) := inferInstanceAs (Decidable (_ ∧ _))
def heldsP (l : List HeldV) : Prop := l.length ≤ 8 ∧ ∀ i, i < l.length → heldP l i
instance (l : List HeldV) : Decidable (heldsP l) := inferInstanceAs (Decidable (_ ∧ _))

set_option maxHeartbeats 4000000 in
theorem spec_HeldsOk (k : Nat) (l : List HeldV) (hpre : bndHS l) : CallsT Try.prog [] F.spec_HeldsOk [.sl false k l.length 4 (rowT heldC l)] (.v (.bool (decide (heldsP l)))) [] := by
  refine fnT C.spec_HeldsOk ?_
  obtain ⟨hb1, hb2⟩ := hpre
  refine run ?_
  refine r_ifd (fun h => ?_) (fun h => ?_)
  · refine run ?_
    refine r_endF ?_
    unfold heldsP; omega
  refine run ?_
  refine r_for l.length (fun i => [(0, .sl false k l.length 4 (rowT heldC l)), (3, .v (.int .i64 i))]) (fun _ => []) (fun i => ∀ j, j < i → heldP l j) [] [] (fun j hj => absurd hj (Nat.not_lt_zero _)) Gc.of (fun i hi hv => ?_) (fun hv => ?_)
  · have hs1 : bndP (nth l i).dig (nth l i).parts := hb2 _ (nth_mem hi)
    have hs2 := hs1.2.1
    refine run ?_
    refine r_ifd (fun h2 => ?_) (fun h2 => ?_)
    · refine run ?_
      refine r_endF ?_
      intro hp
      have := hp.2 i hi
      unfold heldP at this
      grind
    · refine run ?_
      refine ⟨[], [], Gc.of, fun j hj => ?_⟩
      rcases Nat.lt_or_ge j i with hlt | hge
      · exact hv j hlt
      · obtain rfl : j = i := by omega
        unfold heldP
        grind
  · refine run ?_
    refine r_endT ?_
    exact ⟨by omega, hv⟩
instance (k : Nat) (l : List HeldV) : Con Try.prog F.spec_HeldsOk [.sl false k l.length 4 (rowT heldC l)] (bndHS l) (.v (.bool (decide (heldsP l)))) [] := ⟨fun h => spec_HeldsOk k l h⟩

set_option maxHeartbeats 4000000 in
theorem impl_HeldsOk (k : Nat) (l : List HeldV) (hpre : bndHS l) : CallsT Try.prog [] F.impl_HeldsOk [.sl false k l.length 4 (rowT heldC l)] (.v (.bool (decide (heldsP l)))) [] := by
  refine fnT C.impl_HeldsOk ?_
  obtain ⟨hb1, hb2⟩ := hpre
  refine run ?_
  refine r_for l.length (fun i => [(0, .sl false k l.length 4 (rowT heldC l)), (5, .sl false k l.length 4 (rowT heldC l)), (6, .v (.int .i64 l.length)), (7, .v (.int .i64 i))]) (fun _ => []) (fun i => ∀ j, j < i → heldP l j) [] [] (fun j hj => absurd hj (Nat.not_lt_zero _)) Gc.of (fun i hi hv => ?_) (fun hv => ?_)
  · have hs1 : bndP (nth l i).dig (nth l i).parts := hb2 _ (nth_mem hi)
    have hs2 := hs1.2.1
    refine run ?_
    refine r_ifd (fun h2 => ?_) (fun h2 => ?_)
    · refine run ?_
      refine r_endF ?_
      intro hp
      have := hp.2 i hi
      unfold heldP at this
      grind
    · refine run ?_
      refine ⟨[], [], Gc.of, fun j hj => ?_⟩
      rcases Nat.lt_or_ge j i with hlt | hge
      · exact hv j hlt
      · obtain rfl : j = i := by omega
        unfold heldP
        grind
  · refine run ?_
    exact r_endb ⟨fun (h : (l.length : Int) ≤ 8) => ⟨by omega, hv⟩, fun h => by have := h.1; omega⟩
instance (k : Nat) (l : List HeldV) : Con Try.prog F.impl_HeldsOk [.sl false k l.length 4 (rowT heldC l)] (bndHS l) (.v (.bool (decide (heldsP l)))) [] := ⟨fun h => impl_HeldsOk k l h⟩

end Go.TL
