/- Lists of helds: sizes, copies, likeness, what is right. No conditions but those that are written. -/
import Derived.Test.YtneiifghegdfgaaA5
namespace Go.TL
set_option linter.unusedSimpArgs false
open Go.Proofs Go.RowKit
attribute [local irreducible] wpOpsT wpT EndT Ex.seq Ex.block W

def totHS (l : List HeldV) : Int := l.length + sumI totH l
def bndHS (l : List HeldV) : Prop := l.length ≤ 2513169434916 ∧ ∀ h ∈ l, bndH h

theorem totHS_nn (l : List HeldV) : 0 ≤ totHS l := by have := sum_nn totH_nn l; unfold totHS; omega

set_option maxHeartbeats 4000000 in
theorem laws_szHeldS (k : Nat) (l : List HeldV) (left : Int) (hpre : bndHS l ∧ 0 ≤ left ∧ left ≤ 1048576) : CallsT Try.prog [] F.laws_szHeldS [.sl false k l.length 4 (rowT heldC l), .v (.int .i64 left)] (.v (.int .i64 (cutI (left - totHS l)))) [] := by
  refine fnT C.laws_szHeldS ?_
  obtain ⟨⟨hb1, hb2⟩, h0, h1⟩ := hpre
  have hn := sum_nn totH_nn l
  refine run ?_
  refine r_ifd (fun h => ?_) (fun h => ?_)
  · rw [show cutI (left - totHS l) = -1 from if_pos (by unfold totHS; omega)]
    refine run ?_
    exact r_end [] []
  refine run ?_
  refine r_for l.length (fun i => [(0, .sl false k l.length 4 (rowT heldC l)), (1, .v (.int .i64 (left - l.length - sumI totH (l.take i)))), (5, .v (.int .i64 i))]) (fun _ => []) (fun i => 0 ≤ left - l.length - sumI totH (l.take i)) [] [] (by simp [sumI]; omega) Gc.of (fun i hi hv => ?_) (fun hv => ?_)
  · have hs := sum_take totH hi
    have hs0 := sum_nn totH_nn (l.take i)
    have hs1 : bndP (nth l i).dig (nth l i).parts := hb2 _ (nth_mem hi)
    have hs2 := sum_le totH_nn l (i + 1)
    have hs3 : totP (nth l i).dig (nth l i).parts = totH (nth l i) := rfl
    refine run ?_
    have e : left - l.length - sumI totH (l.take i) - totH (nth l i) = left - l.length - sumI totH (l.take (i + 1)) := by omega
    rw [hs3, e]
    refine r_ifd (fun h => ?_) (fun h => ?_)
    · rw [show cutI (left - totHS l) = -1 from if_pos (by unfold cutI at h; unfold totHS; split at h <;> omega)]
      refine run ?_
      exact r_end [] []
    · have h2 : 0 ≤ left - l.length - sumI totH (l.take (i + 1)) := by unfold cutI at h; split at h <;> omega
      rw [show cutI (left - l.length - sumI totH (l.take (i + 1))) = left - l.length - sumI totH (l.take (i + 1)) from if_neg (by omega)]
      refine run ?_
      exact ⟨[], [], Gc.of, by omega⟩
  · rw [show cutI (left - totHS l) = left - l.length - sumI totH (l.take l.length) by rw [List.take_length] at *; unfold cutI totHS; rw [if_neg (by omega)]; omega]
    refine run ?_
    exact r_end [] []
instance (k : Nat) (l : List HeldV) (left : Int) : Con Try.prog F.laws_szHeldS [.sl false k l.length 4 (rowT heldC l), .v (.int .i64 left)] (bndHS l ∧ 0 ≤ left ∧ left ≤ 1048576) (.v (.int .i64 (cutI (left - totHS l)))) [] := ⟨fun h => laws_szHeldS k l left h⟩

/-- A new row of helds, before anything is put into it. -/
def zHeld : HeldV := ⟨0, 0, ⟨#[]⟩, []⟩
def zHeldC (_ : Unit) : List T := [.v (.int .i64 0), .v (.int .i64 0), .v (.string ⟨#[]⟩), .v (.slice none 0 0)]
instance : RowE zHeldC 4 := ⟨⟨fun _ => rfl, fun _ => rfl⟩⟩
@[go_sem] theorem mkR_held (n : Nat) : mkR [.v (.int .i64 0), .v (.int .i64 0), .v (.string ⟨#[]⟩), .v (.slice none 0 0)] n = ((List.replicate n ()).length, rowT zHeldC (List.replicate n ())) := mkR_enc zHeldC () n
theorem wk_held (n : Nat) : Wks (rowT zHeldC (List.replicate n ())) (rowT heldC (List.replicate n zHeld)) := by
  have := Wks.row (e1 := zHeldC) (e2 := heldC) (fun _ => zHeld) (fun _ => .cons (.refl _) (.cons (.refl _) (.cons (.refl _) (.cons (.nil _ _) .nil)))) (List.replicate n ())
  rwa [List.map_replicate] at this

set_option maxHeartbeats 4000000 in
theorem laws_toHeldS (k : Nat) (l : List HeldV) (hpre : bndHS l) : CallsT Try.prog [] F.laws_toHeldS [.sl false k l.length 4 (rowT heldC l)] (.sl false 0 l.length 4 (rowT heldC l)) [] := by
  refine fnT C.laws_toHeldS ?_
  obtain ⟨hb1, hb2⟩ := hpre
  have hwk := wk_held l.length
  refine run ?_
  rw [Int.toNat_natCast, List.length_replicate]
  refine r_for l.length (fun i => [(0, .sl false k l.length 4 (rowT heldC l)), (3, .ref 0 [] 0 l.length), (4, .v (.int .i64 i))]) (fun i => [⟨4, true, rowT heldC (l.take i ++ (List.replicate l.length zHeld).drop i)⟩]) (fun _ => True) [0] [] trivial Gc.of (fun i hi _ => ?_) (fun _ => ?_)
  · have hs1 : bndP (nth l i).dig (nth l i).parts := hb2 _ (nth_mem hi)
    have hs2 := hs1.2.1
    refine run ?_
    refine r_sto (enc := heldC) _ i (nth l i) ?_
    rw [set_mix hi (by simp)]
    refine run ?_
    exact ⟨[0], [], Gc.of, trivial⟩
  · rw [List.take_length, List.drop_of_length_le (by simp), List.append_nil]
    refine run ?_
    exact r_end [] [0]
instance (k : Nat) (l : List HeldV) : Con Try.prog F.laws_toHeldS [.sl false k l.length 4 (rowT heldC l)] (bndHS l) (.sl false 0 l.length 4 (rowT heldC l)) [] := ⟨fun h => laws_toHeldS k l h⟩

set_option maxHeartbeats 4000000 in
theorem laws_eqHeldS (k k2 : Nat) (l : List HeldV) (hpre : bndHS l) : CallsT Try.prog [] F.laws_eqHeldS [.sl false k l.length 4 (rowT heldC l), .sl false k2 l.length 4 (rowT heldC l)] (.v (.bool true)) [] := by
  refine fnT C.laws_eqHeldS ?_
  obtain ⟨hb1, hb2⟩ := hpre
  refine run ?_
  refine r_for l.length (fun i => [(0, .sl false k l.length 4 (rowT heldC l)), (1, .sl false k2 l.length 4 (rowT heldC l)), (5, .v (.int .i64 i))]) (fun _ => []) (fun _ => True) [] [] trivial Gc.of (fun i hi _ => ?_) (fun _ => ?_)
  · have hs1 : bndP (nth l i).dig (nth l i).parts := hb2 _ (nth_mem hi)
    have hs2 := hs1.2.1
    refine run ?_
    exact ⟨[], [], Gc.of, trivial⟩
  · refine run ?_
    exact r_end [] []
instance (k k2 : Nat) (l : List HeldV) : Con Try.prog F.laws_eqHeldS [.sl false k l.length 4 (rowT heldC l), .sl false k2 l.length 4 (rowT heldC l)] (bndHS l) (.v (.bool true)) [] := ⟨fun h => laws_eqHeldS k k2 l h⟩

end Go.TL
