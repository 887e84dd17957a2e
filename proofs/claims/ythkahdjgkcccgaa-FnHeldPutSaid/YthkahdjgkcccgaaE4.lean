/- Rows of commands: printed by a program of this work. No conditions but those that are written. -/
import Derived.Test.YthkahdjgkcccgaaE2
namespace Go.TL
set_option linter.unusedSimpArgs false
open Go.Proofs Go.RowKit
attribute [local irreducible] wpOpsT wpT EndT Ex.seq Ex.block W

def totCmdS (l : List CmdV) : Int := l.length + sumI totCmdV l
def bndCmdS (l : List CmdV) : Prop := l.length * 48 ≤ 140737488351232 ∧ ∀ x ∈ l, bndCmdV x
theorem totCmdS_nn (l : List CmdV) : 0 ≤ totCmdS l := by have := sum_nn totCmdV_nn l; unfold totCmdS; omega

set_option maxHeartbeats 4000000 in
theorem laws_szCmdS (k : Nat) (l : List CmdV) (left : Int) (hpre : bndCmdS l ∧ 0 ≤ left ∧ left ≤ 1048576) : CallsT Try.prog [] F.laws_szCmdS [.sl false k l.length 5 (rowT cmdC l), .v (.int .i64 left)] (.v (.int .i64 (cutI (left - totCmdS l)))) [] := by
  refine fnT C.laws_szCmdS ?_
  obtain ⟨⟨hb1, hb2⟩, h0, h1⟩ := hpre
  have hn := sum_nn totCmdV_nn l
  refine run ?_
  refine r_ifd (fun h => ?_) (fun h => ?_)
  · rw [show cutI (left - totCmdS l) = -1 from if_pos (by unfold totCmdS; omega)]
    refine run ?_
    exact r_end [] []
  refine run ?_
  refine r_for l.length (fun i => [(0, .sl false k l.length 5 (rowT cmdC l)), (1, .v (.int .i64 (left - l.length - sumI totCmdV (l.take i)))), (5, .v (.int .i64 i))]) (fun _ => []) (fun i => 0 ≤ left - l.length - sumI totCmdV (l.take i)) [] [] (by simp [sumI]; omega) Gc.of (fun i hi hv => ?_) (fun hv => ?_)
  · have hs := sum_take totCmdV hi
    have hs0 := sum_nn totCmdV_nn (l.take i)
    have hs1 : bndCmd (nth l i).dig := hb2 _ (nth_mem hi)
    have hs2 := sum_le totCmdV_nn l (i + 1)
    have hs3 : totCmd (nth l i).dig = totCmdV (nth l i) := rfl
    refine run ?_
    have e : left - l.length - sumI totCmdV (l.take i) - totCmdV (nth l i) = left - l.length - sumI totCmdV (l.take (i + 1)) := by omega
    rw [hs3, e]
    refine r_ifd (fun h => ?_) (fun h => ?_)
    · have h := cutI_neg h
      rw [show cutI (left - totCmdS l) = -1 from if_pos (by unfold totCmdS; omega)]
      refine run ?_
      exact r_end [] []
    · obtain ⟨e1, h2⟩ := cutI_nn h
      rw [e1]
      refine run ?_
      exact ⟨[], [], Gc.of, h2⟩
  · rw [show cutI (left - totCmdS l) = left - l.length - sumI totCmdV (l.take l.length) by rw [List.take_length] at *; unfold cutI totCmdS; rw [if_neg (by omega)] <;> omega]
    refine run ?_
    exact r_end [] []
instance (k : Nat) (l : List CmdV) (left : Int) : Con Try.prog F.laws_szCmdS [.sl false k l.length 5 (rowT cmdC l), .v (.int .i64 left)] (bndCmdS l ∧ 0 ≤ left ∧ left ≤ 1048576) (.v (.int .i64 (cutI (left - totCmdS l)))) [] := ⟨fun h => laws_szCmdS k l left h⟩

@[go_sem] theorem mkR_cmd (n : Nat) : mkR [.v (.int .i64 0), .v (.int .i64 0), .v (.int .i64 0), .v (.int .i64 0), .v (.string ⟨#[]⟩)] n = ((List.replicate n (default : CmdV)).length, rowT cmdC (List.replicate n default)) := mkR_enc cmdC default n

set_option maxHeartbeats 4000000 in
theorem laws_toCmdS (k : Nat) (l : List CmdV) (hpre : bndCmdS l) : CallsT Try.prog [] F.laws_toCmdS [.sl false k l.length 5 (rowT cmdC l)] (.sl false 0 l.length 5 (rowT cmdC l)) [] := by
  refine fnT C.laws_toCmdS ?_
  obtain ⟨hb1, hb2⟩ := hpre
  refine run ?_
  rw [Int.toNat_natCast, List.length_replicate]
  refine r_for l.length (fun i => [(0, .sl false k l.length 5 (rowT cmdC l)), (3, .ref 0 [] 0 l.length), (4, .v (.int .i64 i))]) (fun i => [⟨5, true, rowT cmdC (l.take i ++ (List.replicate l.length default).drop i)⟩]) (fun _ => True) [0] [] trivial Gc.of (fun i hi _ => ?_) (fun _ => ?_)
  · have hs1 : bndCmd (nth l i).dig := hb2 _ (nth_mem hi)
    refine run ?_
    refine r_sto (enc := cmdC) _ i (nth l i) ?_
    rw [set_mix hi (by simp)]
    refine run ?_
    exact ⟨[0], [], Gc.of, trivial⟩
  · rw [List.take_length, List.drop_of_length_le (by simp), List.append_nil]
    refine run ?_
    exact r_end [] [0]
instance (k : Nat) (l : List CmdV) : Con Try.prog F.laws_toCmdS [.sl false k l.length 5 (rowT cmdC l)] (bndCmdS l) (.sl false 0 l.length 5 (rowT cmdC l)) [] := ⟨fun h => laws_toCmdS k l h⟩

set_option maxHeartbeats 4000000 in
theorem laws_eqCmdS (k k2 : Nat) (l : List CmdV) (hpre : bndCmdS l) : CallsT Try.prog [] F.laws_eqCmdS [.sl false k l.length 5 (rowT cmdC l), .sl false k2 l.length 5 (rowT cmdC l)] (.v (.bool true)) [] := by
  refine fnT C.laws_eqCmdS ?_
  obtain ⟨hb1, hb2⟩ := hpre
  refine run ?_
  refine r_for l.length (fun i => [(0, .sl false k l.length 5 (rowT cmdC l)), (1, .sl false k2 l.length 5 (rowT cmdC l)), (5, .v (.int .i64 i))]) (fun _ => []) (fun _ => True) [] [] trivial Gc.of (fun i hi _ => ?_) (fun _ => ?_)
  · have hs1 : bndCmd (nth l i).dig := hb2 _ (nth_mem hi)
    refine run ?_
    exact ⟨[], [], Gc.of, trivial⟩
  · refine run ?_
    exact r_end [] []
instance (k k2 : Nat) (l : List CmdV) : Con Try.prog F.laws_eqCmdS [.sl false k l.length 5 (rowT cmdC l), .sl false k2 l.length 5 (rowT cmdC l)] (bndCmdS l) (.v (.bool true)) [] := ⟨fun h => laws_eqCmdS k k2 l h⟩

end Go.TL
