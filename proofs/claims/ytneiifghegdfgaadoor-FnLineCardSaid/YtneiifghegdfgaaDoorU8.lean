/- A line is read as a deed, both sides. No conditions but those that are written. -/
import Derived.Test.YtneiifghegdfgaaDoorJU1U2
import Derived.Test.YtneiifghegdfgaaDoorU3
import Derived.Test.YtneiifghegdfgaaDoorU4
import Derived.Test.YtneiifghegdfgaaDoorD1
import Derived.Test.YtneiifghegdfgaaDoorG2
namespace Go.TL
set_option linter.unusedSimpArgs false
open Go.Proofs Go.RowKit
attribute [local irreducible] wpOpsT wpT EndT Ex.seq Ex.block W

theorem findIdx_at {α : Type} [Inhabited α] {p : α → Bool} {l : List α} {i : Nat} (hi : i < l.length) (h : p (nth l (i : Nat)) = true) (hv : ∀ j : Nat, j < i → ¬ p (nth l (j : Nat)) = true) : findBy p l = i := findBy_at hi h hv
set_option maxHeartbeats 4000000 in
theorem slices_Index_string (k : Nat) (l : List ByteArray) (w : ByteArray) (hpre : l.length ≤ 1000000000) : CallsT Tryd.prog [] F.slices_Index_string [.sl false k l.length 1 (rowT strC l), .v (.string w)] (.v (.int .i64 (findBy (fun x => decide (w = x)) l))) [] := by
  refine fnT C.slices_Index_string ?_
  refine run ?_
  refine r_for l.length (fun i => [(0, .sl false k l.length 1 (rowT strC l)), (1, .v (.string w)), (7, .v (.int .i64 l.length)), (8, .v (.int .i64 i))]) (fun _ => []) (fun i => ∀ j, j < i → ¬ w = nth l (j : Nat)) [] [] all_0 Gc.of (fun i hi hv => ?_) (fun hv => ?_)
  · refine run ?_
    refine r_ifd (fun h => ?_) (fun h => ?_)
    · rw [findBy_at (p := fun x => decide (w = x)) hi (decide_eq_true h) (fun j hj hh => hv j hj (of_decide_eq_true hh))]
      refine run ?_
      exact r_end [] []
    · refine run ?_
      exact ⟨[], [], Gc.of, all_step hv h⟩
  · rw [findBy_no (p := fun x => decide (w = x)) fun j hj hh => hv j hj (of_decide_eq_true hh)]
    refine run ?_
    exact r_end [] []
instance (k : Nat) (l : List ByteArray) (w : ByteArray) : Con Tryd.prog F.slices_Index_string [.sl false k l.length 1 (rowT strC l), .v (.string w)] (l.length ≤ 1000000000) (.v (.int .i64 (findBy (fun x => decide (w = x)) l))) [] := ⟨fun h => slices_Index_string k l w h⟩

theorem nth_drop1 (ws : List ByteArray) (i : Nat) : nth (ws.drop 1) (i : Nat) = nth ws ((i + 1 : Nat) : Int) := by
  unfold nth
  rw [List.getD_eq_getElem?_getD, List.getD_eq_getElem?_getD, List.getElem?_drop, Int.toNat_natCast, Int.toNat_natCast, Nat.add_comm]
theorem size_le_of (s : ByteArray) : (20000 < (s.size : Int)) ↔ ¬ s.size ≤ 20000 := by omega

set_option maxHeartbeats 8000000 in
set_option maxHeartbeats 4000000 in
theorem impl_ParseDeed (s : ByteArray) (hpre : s.size ≤ 1048576) : CallsT Tryd.prog [] F.impl_ParseDeed [.v (.string s)] (.tup [.agg (deedC (parseV s).1), .v (.int .i64 ((parseV s).2))]) [] := by
  refine fnT C.impl_ParseDeed ?_
  have hsp := fun h => strings_Split s h
  refine runC ?_
  refine r_ifd (fun h => ?_) (fun h => ?_)
  · rw [show parseV s = (zeroD, 1) from if_pos h]
    refine run ?_
    exact r_end [] []
  rw [show parseV s = parseW (wordsOf s) from if_neg h]
  refine runC ?_
  refine r_callp false (strings_Split s (by omega)) ?_
  have hne := wordsOf_ne s
  have hll := wordsOf_len s
  have hcl := cntF_le (strL s) 32 s.size
  have hwl := words_len
  have hkb := kindOf_b (nth (wordsOf s) 0)
  have ek : (1 : Int) + findBy (fun x => decide (nth (wordsOf s) 0 = x)) wordsB = kindOf (nth (wordsOf s) 0) := rfl
  have hf4 := formB_size (kindOf (nth (wordsOf s) 0))
  refine runC ?_
  refine r_callc ?_ (hp := dr_still)
  refine runC ?_
  refine r_callc ?_ (hp := dr_still)
  refine runC ?_
  rw [ek]
  refine r_do ?_ (hp := dr_chainc)
  refine run ?_
  refine r_ifd (fun h1 => ?_) (fun h1 => ?_)
  · rw [show parseW (wordsOf s) = (zeroD, 2) from if_pos h1]
    refine run ?_
    exact r_end [] []
  refine run ?_
  refine r_ifd (fun h2 => ?_) (fun h2 => ?_)
  · rw [show parseW (wordsOf s) = (zeroD, 3) by unfold parseW; rw [if_neg h1, if_pos (by omega)]]
    refine run ?_
    exact r_end [] []
  have hw1 : (wordsOf s).length = (formB (kindOf (nth (wordsOf s) 0))).size + 1 := by omega
  have hdl : ((wordsOf s).drop 1).length = (formB (kindOf (nth (wordsOf s) 0))).size := by rw [List.length_drop]; omega
  have hfm := formB_mem (kindOf (nth (wordsOf s) 0))
  have hst0 : parseSt (kindOf (nth (wordsOf s) 0)) (wordsOf s) 0 = ⟨kindOf (nth (wordsOf s) 0), 0, 0, 0, 0, ⟨#[]⟩⟩ := rfl
  have hsz : ∀ i : Nat, i < (wordsOf s).length → (nth (wordsOf s) (i : Nat)).size ≤ s.size := fun i hi => wordsOf_size s _ (nth_mem hi)
  have hpw : parseW (wordsOf s) = if ¬ fieldsOk (kindOf (nth (wordsOf s) 0)) (wordsOf s) (formB (kindOf (nth (wordsOf s) 0))).size then (zeroD, 4) else if ¬ deedOkV (parseSt (kindOf (nth (wordsOf s) 0)) (wordsOf s) (formB (kindOf (nth (wordsOf s) 0))).size) then (zeroD, 5) else (parseSt (kindOf (nth (wordsOf s) 0)) (wordsOf s) (formB (kindOf (nth (wordsOf s) 0))).size, 0) := by
    unfold parseW; rw [if_neg h1, if_neg (by omega)]
  have hps : ∀ i, parseSt (kindOf (nth (wordsOf s) 0)) (wordsOf s) (i + 1) = setV (parseSt (kindOf (nth (wordsOf s) 0)) (wordsOf s) i) (nth (strL (formB (kindOf (nth (wordsOf s) 0)))) (i : Nat)) (nth (wordsOf s) ((i + 1 : Nat) : Int)) := fun i => rfl
  have hfo : ∀ i, fieldsOk (kindOf (nth (wordsOf s) 0)) (wordsOf s) i → setOk (nth (strL (formB (kindOf (nth (wordsOf s) 0)))) (i : Nat)) (nth (wordsOf s) ((i + 1 : Nat) : Int)) → fieldsOk (kindOf (nth (wordsOf s) 0)) (wordsOf s) (i + 1) := fun i a b => all_step a b
  rw [hpw]
  generalize hwo : wordsOf s = ws at *
  generalize hkk : kindOf (nth ws 0) = kk at *
  refine run ?_
  refine r_for (formB kk).size (fun i => [(2, .ptr 0 [] 0), (4, .sl false 0 ws.length 1 (rowT strC ws)), (5, .ptr 1 [] 0), (6, .v (.string (formB kk))), (37, .sl false 0 (ws.drop 1).length 1 (rowT strC (ws.drop 1))), (38, .v (.int .i64 ((ws.drop 1).length))), (39, .v (.int .i64 i))]) (fun i => [⟨0, true, [.v (.int .i64 0), .v (.int .i64 0), .v (.int .i64 0), .v (.int .i64 0), .v (.int .i64 0), .v (.string (⟨#[]⟩))]⟩, ⟨0, true, deedC (parseSt kk ws i)⟩]) (fun i => fieldsOk kk ws i) [0, 1] [] all_0 Gc.of (fun i hi hv => ?_) (fun hv => ?_)
  · have hc := hfm i hi
    have hz := hsz (i + 1) (by omega)
    have hset := impl_setField (parseSt kk ws i) (nth (strL (formB kk)) (i : Nat)) (nth ws ((i + 1 : Nat) : Int)) hc (by omega)
    dsimp only [deedC] at hset ⊢
    have hd1 := nth_drop1 ws i
    refine runC ?_
    rw [hd1]
    refine r_call1p 1 hset ?_
    refine run ?_
    refine r_ifd (fun h3 => ?_) (fun h3 => ?_)
    · rw [if_pos (fun hh => h3 (hh i hi))]
      refine run ?_
      exact r_end [] []
    · have h3 := Decidable.not_not.1 h3
      refine run ?_
      exact ⟨[0, 1], [], Gc.of, hfo i hv h3⟩
  · rw [if_neg (fun hh => hh hv)]
    dsimp only [deedC]
    refine run ?_
    refine r_ifd (fun h3 => ?_) (fun h3 => ?_)
    · have h4 : ¬ deedOkV (parseSt kk ws (formB kk).size) := h3
      rw [if_pos h4]
      refine run ?_
      exact r_end [] []
    · have h4 : ¬ ¬ deedOkV (parseSt kk ws (formB kk).size) := h3
      rw [if_neg h4]
      refine run ?_
      exact r_end [] []
instance (s : ByteArray) : Con Tryd.prog F.impl_ParseDeed [.v (.string s)] (s.size ≤ 1048576) (.tup [.agg (deedC (parseV s).1), .v (.int .i64 ((parseV s).2))]) [] := ⟨fun h => impl_ParseDeed s h⟩

attribute [local go_sem] deedC
set_option maxHeartbeats 8000000 in
set_option maxHeartbeats 4000000 in
theorem spec_ParseDeed (s : ByteArray) (hpre : s.size ≤ 1048576) : CallsT Tryd.prog [] F.spec_ParseDeed [.v (.string s)] (.tup [.agg (deedC (parseV s).1), .v (.int .i64 ((parseV s).2))]) [] := by
  refine fnT C.spec_ParseDeed ?_
  refine runC ?_
  refine r_ifd (fun h => ?_) (fun h => ?_)
  · rw [show parseV s = (zeroD, 1) from if_pos h]
    refine run ?_
    exact r_end [] []
  rw [show parseV s = parseW (wordsOf s) from if_neg h]
  have hne := wordsOf_ne s
  have hll := wordsOf_len s
  have hcl := cntF_le (strL s) 32 s.size
  refine run ?_
  refine r_for 14 (fun i => [(2, .ptr 0 [] 0), (4, .sl false 0 (wordsOf s).length 1 (rowT strC (wordsOf s))), (5, .ptr 1 [] 0), (6, .v (.int .i64 ((i : Int) + 1)))]) (fun i => [⟨0, true, [.v (.int .i64 0), .v (.int .i64 0), .v (.int .i64 0), .v (.int .i64 0), .v (.int .i64 0), .v (.string (⟨#[]⟩))]⟩, ⟨0, true, [.v (.int .i64 (kindSt (nth (wordsOf s) 0) i)), .v (.int .i64 0), .v (.int .i64 0), .v (.int .i64 0), .v (.int .i64 0), .v (.string (⟨#[]⟩))]⟩]) (fun _ => True) [0, 1] [] trivial Gc.of (fun i hi _ => ?_) (fun _ => ?_)
  · have e1 : kindSt (nth (wordsOf s) 0) (i + 1) = if nth (wordsOf s) 0 = nameB ((i : Int) + 1) then (i : Int) + 1 else kindSt (nth (wordsOf s) 0) i := rfl
    refine run ?_
    refine r_ifd (fun h1 => ?_) (fun h1 => ?_)
    · rw [e1, if_pos h1]
      refine run ?_
      exact ⟨[0, 1], [], Gc.of, trivial⟩
    · rw [e1, if_neg h1]
      refine run ?_
      exact ⟨[0, 1], [], Gc.of, trivial⟩
  rw [kindSt_of]
  have hkb := kindOf_b (nth (wordsOf s) 0)
  have hf4 := formB_size (kindOf (nth (wordsOf s) 0))
  refine run ?_
  refine r_ifd (fun h1 => ?_) (fun h1 => ?_)
  · rw [show parseW (wordsOf s) = (zeroD, 2) from if_pos h1]
    refine run ?_
    exact r_end [] []
  refine run ?_
  refine r_ifd (fun h2 => ?_) (fun h2 => ?_)
  · rw [show parseW (wordsOf s) = (zeroD, 3) by unfold parseW; rw [if_neg h1, if_pos (by omega)]]
    refine run ?_
    exact r_end [] []
  have hw1 : (wordsOf s).length = (formB (kindOf (nth (wordsOf s) 0))).size + 1 := by omega
  have hfm := formB_mem (kindOf (nth (wordsOf s) 0))
  have hsz : ∀ i : Nat, i < (wordsOf s).length → (nth (wordsOf s) (i : Nat)).size ≤ s.size := fun i hi => wordsOf_size s _ (nth_mem hi)
  have hpw : parseW (wordsOf s) = if ¬ fieldsOk (kindOf (nth (wordsOf s) 0)) (wordsOf s) (formB (kindOf (nth (wordsOf s) 0))).size then (zeroD, 4) else if ¬ deedOkV (parseSt (kindOf (nth (wordsOf s) 0)) (wordsOf s) (formB (kindOf (nth (wordsOf s) 0))).size) then (zeroD, 5) else (parseSt (kindOf (nth (wordsOf s) 0)) (wordsOf s) (formB (kindOf (nth (wordsOf s) 0))).size, 0) := by
    unfold parseW; rw [if_neg h1, if_neg (by omega)]
  have hps : ∀ i, parseSt (kindOf (nth (wordsOf s) 0)) (wordsOf s) (i + 1) = setV (parseSt (kindOf (nth (wordsOf s) 0)) (wordsOf s) i) (nth (strL (formB (kindOf (nth (wordsOf s) 0)))) (i : Nat)) (nth (wordsOf s) ((i + 1 : Nat) : Int)) := fun i => rfl
  have hfo : ∀ i, fieldsOk (kindOf (nth (wordsOf s) 0)) (wordsOf s) i → setOk (nth (strL (formB (kindOf (nth (wordsOf s) 0)))) (i : Nat)) (nth (wordsOf s) ((i + 1 : Nat) : Int)) → fieldsOk (kindOf (nth (wordsOf s) 0)) (wordsOf s) (i + 1) := fun i a b => all_step a b
  rw [hpw]
  generalize hwo : wordsOf s = ws at *
  generalize hkk : kindOf (nth ws 0) = kk at *
  refine run ?_
  refine r_for (formB kk).size (fun i => [(2, .ptr 0 [] 0), (4, .sl false 0 ws.length 1 (rowT strC ws)), (5, .ptr 1 [] 0), (7, .v (.string (formB kk))), (8, .v (.int .i64 i))]) (fun i => [⟨0, true, [.v (.int .i64 0), .v (.int .i64 0), .v (.int .i64 0), .v (.int .i64 0), .v (.int .i64 0), .v (.string (⟨#[]⟩))]⟩, ⟨0, true, deedC (parseSt kk ws i)⟩]) (fun i => fieldsOk kk ws i) [0, 1] [] all_0 Gc.of (fun i hi hv => ?_) (fun hv => ?_)
  · have hc := hfm i hi
    have hz : (nth ws ((i : Int) + 1)).size ≤ 100000000 := by
      have h := hsz (i + 1) (by omega)
      rw [show ((i + 1 : Nat) : Int) = (i : Int) + 1 from rfl] at h
      omega
    dsimp only [deedC]
    refine runC ?_
    refine r_callc ?_ (hp := dr_still)
    refine runC ?_
    refine r_do ?_ (hp := dr_chainc)
    refine run ?_
    refine r_ifd (fun h3 => ?_) (fun h3 => ?_)
    · rw [if_pos (fun hh => h3 (hh i hi))]
      refine run ?_
      exact r_end [] []
    · have h3 := Decidable.not_not.1 h3
      refine run ?_
      exact ⟨[0, 1], [], Gc.of, hfo i hv h3⟩
  · rw [if_neg (fun hh => hh hv)]
    dsimp only [deedC]
    refine run ?_
    refine r_ifd (fun h3 => ?_) (fun h3 => ?_)
    · have h4 : ¬ deedOkV (parseSt kk ws (formB kk).size) := h3
      rw [if_pos h4]
      refine run ?_
      exact r_end [] []
    · have h4 : ¬ ¬ deedOkV (parseSt kk ws (formB kk).size) := h3
      rw [if_neg h4]
      refine run ?_
      exact r_end [] []
instance (s : ByteArray) : Con Tryd.prog F.spec_ParseDeed [.v (.string s)] (s.size ≤ 1048576) (.tup [.agg (deedC (parseV s).1), .v (.int .i64 ((parseV s).2))]) [] := ⟨fun h => spec_ParseDeed s h⟩

end Go.TL
