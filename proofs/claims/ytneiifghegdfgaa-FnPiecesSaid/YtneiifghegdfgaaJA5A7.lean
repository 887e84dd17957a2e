/- Texts joined. No conditions but those that are written. -/
import Derived.Test.YtneiifghegdfgaaA4
import Derived.Test.YtneiifghegdfgaaTGet
/- Helds: sizes, copies, likeness. No conditions but those that are written. -/
namespace Go.TL
set_option linter.unusedSimpArgs false
open Go.Proofs Go.RowKit
attribute [local irreducible] wpOpsT wpT EndT Ex.seq Ex.block W

def cutI (x : Int) : Int := if x < 0 then -1 else x
theorem cutI_neg {x : Int} (h : cutI x < 0) : x < 0 := by unfold cutI at h; split at h <;> omega
theorem cutI_nn {x : Int} (h : ¬ cutI x < 0) : cutI x = x ∧ 0 ≤ x := by unfold cutI at h ⊢; split at h <;> omega
def sumI {α : Type} (f : α → Int) (l : List α) : Int := (l.map f).sum
theorem sum_nn {α : Type} {f : α → Int} (hf : ∀ x, 0 ≤ f x) : ∀ l : List α, 0 ≤ sumI f l
  | [] => by simp [sumI]
  | x :: l => by
    have h1 := hf x
    have h2 := sum_nn hf l
    simp only [sumI, List.map_cons, List.sum_cons] at h2 ⊢
    omega
theorem sum_app {α : Type} (f : α → Int) (a b : List α) : sumI f (a ++ b) = sumI f a + sumI f b := by simp [sumI]
@[go_sem] theorem sum_nil {α : Type} (f : α → Int) : sumI f [] = 0 := rfl
theorem sum_take {α : Type} [Inhabited α] (f : α → Int) {l : List α} {i : Nat} (h : i < l.length) : sumI f (l.take (i + 1)) = sumI f (l.take i) + f (nth l i) := by
  rw [take_nth h, sum_app]; simp [sumI]
theorem sum_le {α : Type} {f : α → Int} (hf : ∀ x, 0 ≤ f x) (l : List α) (i : Nat) : sumI f (l.take i) ≤ sumI f l := by
  have h1 := sum_app f (l.take i) (l.drop i)
  have h2 := sum_nn hf (l.drop i)
  rw [List.take_append_drop] at h1
  omega

def szS (s : ByteArray) : Int := s.size
theorem szS_nn (s : ByteArray) : 0 ≤ szS s := by unfold szS; omega
def totS (l : List ByteArray) : Int := l.length + sumI szS l
theorem totS_nn (l : List ByteArray) : 0 ≤ totS l := by have := sum_nn szS_nn l; unfold totS; omega
theorem totS_nn' (l : List ByteArray) : 0 ≤ totS l := totS_nn l
def bndS (l : List ByteArray) : Prop := l.length ≤ 8796093022208 ∧ ∀ s ∈ l, s.size ≤ 140737488351232

set_option maxHeartbeats 4000000 in
theorem laws_szStringS (k : Nat) (l : List ByteArray) (left : Int) (hpre : bndS l ∧ 0 ≤ left ∧ left ≤ 1048576) : CallsT Try.prog [] F.laws_szStringS [.sl false k l.length 1 (rowT strC l), .v (.int .i64 left)] (.v (.int .i64 (cutI (left - totS l)))) [] := by
  refine fnT C.laws_szStringS ?_
  obtain ⟨⟨hb1, hb2⟩, h0, h1⟩ := hpre
  have hn := sum_nn szS_nn l
  refine run ?_
  refine r_ifd (fun h => ?_) (fun h => ?_)
  · rw [show cutI (left - totS l) = -1 from if_pos (by unfold totS; omega)]
    refine run ?_
    exact r_end [] []
  refine run ?_
  refine r_for l.length (fun i => [(0, .sl false k l.length 1 (rowT strC l)), (1, .v (.int .i64 (left - l.length - sumI szS (l.take i)))), (5, .v (.int .i64 i))]) (fun _ => []) (fun i => 0 ≤ left - l.length - sumI szS (l.take i)) [] [] (by simp [sumI]; omega) Gc.of (fun i hi hv => ?_) (fun hv => ?_)
  · have hs := sum_take szS hi
    have hs0 := sum_nn szS_nn (l.take i)
    have hs1 := hb2 _ (nth_mem hi)
    have hs2 := sum_le szS_nn l (i + 1)
    have hs3 : szS (nth l i) = (nth l i).size := rfl
    refine run ?_
    refine r_ifd (fun h => ?_) (fun h => ?_)
    · rw [show cutI (left - totS l) = -1 from if_pos (by unfold totS; omega)]
      refine run ?_
      exact r_end [] []
    · rw [show left - l.length - sumI szS (l.take i) - (nth l i).size = left - l.length - sumI szS (l.take (i + 1)) by omega] at *
      refine run ?_
      exact ⟨[], [], Gc.of, by omega⟩
  · rw [show cutI (left - totS l) = left - l.length - sumI szS (l.take l.length) by rw [List.take_length] at *; unfold cutI totS; rw [if_neg (by omega)]; omega]
    refine run ?_
    exact r_end [] []
instance (k : Nat) (l : List ByteArray) (left : Int) : Con Try.prog F.laws_szStringS [.sl false k l.length 1 (rowT strC l), .v (.int .i64 left)] (bndS l ∧ 0 ≤ left ∧ left ≤ 1048576) (.v (.int .i64 (cutI (left - totS l)))) [] := ⟨fun h => laws_szStringS k l left h⟩

set_option maxHeartbeats 4000000 in
theorem laws_toStringS (k : Nat) (l : List ByteArray) (hpre : l.length ≤ 8796093022208) : CallsT Try.prog [] F.laws_toStringS [.sl false k l.length 1 (rowT strC l)] (.sl false 0 l.length 1 (rowT strC l)) [] := by
  refine fnT C.laws_toStringS ?_
  refine run ?_
  rw [Int.toNat_natCast, List.length_replicate]
  refine r_for l.length (fun i => [(0, .sl false k l.length 1 (rowT strC l)), (3, .ref 0 [] 0 l.length), (4, .v (.int .i64 i))]) (fun i => [⟨1, true, rowT strC (l.take i ++ (List.replicate l.length ⟨#[]⟩).drop i)⟩]) (fun _ => True) [0] [] trivial Gc.of (fun i hi _ => ?_) (fun _ => ?_)
  · refine run ?_
    refine r_sto (enc := strC) _ i (nth l i) ?_
    rw [set_mix hi (by simp)]
    refine run ?_
    exact ⟨[0], [], Gc.of, trivial⟩
  · rw [List.take_length, List.drop_of_length_le (by simp), List.append_nil]
    refine run ?_
    exact r_end [] [0]
instance (k : Nat) (l : List ByteArray) : Con Try.prog F.laws_toStringS [.sl false k l.length 1 (rowT strC l)] (l.length ≤ 8796093022208) (.sl false 0 l.length 1 (rowT strC l)) [] := ⟨fun h => laws_toStringS k l h⟩

set_option maxHeartbeats 4000000 in
theorem laws_eqStringS (k k2 : Nat) (l : List ByteArray) (hpre : l.length ≤ 8796093022208) : CallsT Try.prog [] F.laws_eqStringS [.sl false k l.length 1 (rowT strC l), .sl false k2 l.length 1 (rowT strC l)] (.v (.bool true)) [] := by
  refine fnT C.laws_eqStringS ?_
  refine run ?_
  refine r_for l.length (fun i => [(0, .sl false k l.length 1 (rowT strC l)), (1, .sl false k2 l.length 1 (rowT strC l)), (5, .v (.int .i64 i))]) (fun _ => []) (fun _ => True) [] [] trivial Gc.of (fun i hi _ => ?_) (fun _ => ?_)
  · refine run ?_
    exact ⟨[], [], Gc.of, trivial⟩
  · refine run ?_
    exact r_end [] []
instance (k k2 : Nat) (l : List ByteArray) : Con Try.prog F.laws_eqStringS [.sl false k l.length 1 (rowT strC l), .sl false k2 l.length 1 (rowT strC l)] (l.length ≤ 8796093022208) (.v (.bool true)) [] := ⟨fun h => laws_eqStringS k k2 l h⟩

/-! ### Parcels -/
def totP (d : ByteArray) (l : List ByteArray) : Int := d.size + totS l
def bndP (d : ByteArray) (l : List ByteArray) : Prop := d.size ≤ 140737488351232 ∧ bndS l

set_option maxHeartbeats 4000000 in
theorem laws_szParcel (k : Nat) (sz : Int) (d : ByteArray) (l : List ByteArray) (left : Int) (hpre : bndP d l ∧ 0 ≤ left ∧ left ≤ 1048576) : CallsT Try.prog [] F.laws_szParcel [.agg [.v (.int .i64 sz), .v (.string d), .sl false k l.length 1 (rowT strC l)], .v (.int .i64 left)] (.v (.int .i64 (cutI (left - totP d l)))) [] := by
  refine fnT C.laws_szParcel ?_
  obtain ⟨⟨hb1, hb2⟩, h0, h1⟩ := hpre
  have hn := totS_nn l
  refine run ?_
  refine r_ifd (fun h => ?_) (fun h => ?_)
  · rw [show cutI (left - totP d l) = -1 from if_pos (by unfold totP; omega)]
    refine run ?_
    exact r_end [] []
  refine run ?_
  rw [show cutI (left - d.size - totS l) = cutI (left - totP d l) by unfold totP; congr 1; omega]
  have hc : cutI (left - totP d l) = -1 ∨ 0 ≤ cutI (left - totP d l) := by unfold cutI; split <;> omega
  refine r_ifd (fun h => ?_) (fun h => ?_)
  · rw [show cutI (left - totP d l) = -1 by omega]
    refine run ?_
    exact r_end [] []
  · refine run ?_
    exact r_end [] []
instance (k : Nat) (sz : Int) (d : ByteArray) (l : List ByteArray) (left : Int) : Con Try.prog F.laws_szParcel [.agg [.v (.int .i64 sz), .v (.string d), .sl false k l.length 1 (rowT strC l)], .v (.int .i64 left)] (bndP d l ∧ 0 ≤ left ∧ left ≤ 1048576) (.v (.int .i64 (cutI (left - totP d l)))) [] := ⟨fun h => laws_szParcel k sz d l left h⟩

set_option maxHeartbeats 4000000 in
theorem laws_toParcel (k : Nat) (sz : Int) (d : ByteArray) (l : List ByteArray) (hpre : l.length ≤ 8796093022208) : CallsT Try.prog [] F.laws_toParcel [.agg [.v (.int .i64 sz), .v (.string d), .sl false k l.length 1 (rowT strC l)]] (.agg [.v (.int .i64 sz), .v (.string d), .sl false 0 l.length 1 (rowT strC l)]) [] := by
  refine fnT C.laws_toParcel ?_
  refine run ?_
  exact r_end [] []
instance (k : Nat) (sz : Int) (d : ByteArray) (l : List ByteArray) : Con Try.prog F.laws_toParcel [.agg [.v (.int .i64 sz), .v (.string d), .sl false k l.length 1 (rowT strC l)]] (l.length ≤ 8796093022208) (.agg [.v (.int .i64 sz), .v (.string d), .sl false 0 l.length 1 (rowT strC l)]) [] := ⟨fun h => laws_toParcel k sz d l h⟩

set_option maxHeartbeats 4000000 in
theorem laws_eqParcel (k k2 : Nat) (sz : Int) (d : ByteArray) (l : List ByteArray) (hpre : l.length ≤ 8796093022208) : CallsT Try.prog [] F.laws_eqParcel [.agg [.v (.int .i64 sz), .v (.string d), .sl false k l.length 1 (rowT strC l)], .agg [.v (.int .i64 sz), .v (.string d), .sl false k2 l.length 1 (rowT strC l)]] (.v (.bool true)) [] := by
  refine fnT C.laws_eqParcel ?_
  refine run ?_
  exact r_end [] []
instance (k k2 : Nat) (sz : Int) (d : ByteArray) (l : List ByteArray) : Con Try.prog F.laws_eqParcel [.agg [.v (.int .i64 sz), .v (.string d), .sl false k l.length 1 (rowT strC l)], .agg [.v (.int .i64 sz), .v (.string d), .sl false k2 l.length 1 (rowT strC l)]] (l.length ≤ 8796093022208) (.v (.bool true)) [] := ⟨fun h => laws_eqParcel k k2 sz d l h⟩

/-! ### Helds -/
structure HeldV where
  rel : Int
  size : Int
  dig : ByteArray
  parts : List ByteArray
instance : Inhabited HeldV := ⟨⟨0, 0, ⟨#[]⟩, []⟩⟩
def heldC (h : HeldV) : List T := [.v (.int .i64 h.rel), .v (.int .i64 h.size), .v (.string h.dig), .sl false 0 h.parts.length 1 (rowT strC h.parts)]
instance : RowE heldC 4 := ⟨⟨fun _ => rfl, fun _ => rfl⟩⟩
instance : RowF heldC := ⟨fun _ => rfl⟩
attribute [go_sem] heldC
def bndH (h : HeldV) : Prop := bndP h.dig h.parts
def totH (h : HeldV) : Int := totP h.dig h.parts
theorem totH_nn (h : HeldV) : 0 ≤ totH h := by have := totS_nn h.parts; unfold totH totP; omega

set_option maxHeartbeats 4000000 in
theorem laws_szHeld (k : Nat) (r sz : Int) (d : ByteArray) (l : List ByteArray) (left : Int) (hpre : bndP d l ∧ 0 ≤ left ∧ left ≤ 1048576) : CallsT Try.prog [] F.laws_szHeld [.agg [.v (.int .i64 r), .v (.int .i64 sz), .v (.string d), .sl false k l.length 1 (rowT strC l)], .v (.int .i64 left)] (.v (.int .i64 (cutI (left - totP d l)))) [] := by
  refine fnT C.laws_szHeld ?_
  have hc : cutI (left - totP d l) = -1 ∨ 0 ≤ cutI (left - totP d l) := by unfold cutI; split <;> omega
  refine run ?_
  refine r_ifd (fun h => ?_) (fun h => ?_)
  · rw [show cutI (left - totP d l) = -1 by omega]
    refine run ?_
    exact r_end [] []
  · refine run ?_
    exact r_end [] []
instance (k : Nat) (r sz : Int) (d : ByteArray) (l : List ByteArray) (left : Int) : Con Try.prog F.laws_szHeld [.agg [.v (.int .i64 r), .v (.int .i64 sz), .v (.string d), .sl false k l.length 1 (rowT strC l)], .v (.int .i64 left)] (bndP d l ∧ 0 ≤ left ∧ left ≤ 1048576) (.v (.int .i64 (cutI (left - totP d l)))) [] := ⟨fun h => laws_szHeld k r sz d l left h⟩

set_option maxHeartbeats 4000000 in
theorem laws_toHeld (k : Nat) (r sz : Int) (d : ByteArray) (l : List ByteArray) (hpre : l.length ≤ 8796093022208) : CallsT Try.prog [] F.laws_toHeld [.agg [.v (.int .i64 r), .v (.int .i64 sz), .v (.string d), .sl false k l.length 1 (rowT strC l)]] (.agg [.v (.int .i64 r), .v (.int .i64 sz), .v (.string d), .sl false 0 l.length 1 (rowT strC l)]) [] := by
  refine fnT C.laws_toHeld ?_
  refine run ?_
  exact r_end [] []
instance (k : Nat) (r sz : Int) (d : ByteArray) (l : List ByteArray) : Con Try.prog F.laws_toHeld [.agg [.v (.int .i64 r), .v (.int .i64 sz), .v (.string d), .sl false k l.length 1 (rowT strC l)]] (l.length ≤ 8796093022208) (.agg [.v (.int .i64 r), .v (.int .i64 sz), .v (.string d), .sl false 0 l.length 1 (rowT strC l)]) [] := ⟨fun h => laws_toHeld k r sz d l h⟩

set_option maxHeartbeats 4000000 in
theorem laws_eqHeld (k k2 : Nat) (r sz : Int) (d : ByteArray) (l : List ByteArray) (hpre : l.length ≤ 8796093022208) : CallsT Try.prog [] F.laws_eqHeld [.agg [.v (.int .i64 r), .v (.int .i64 sz), .v (.string d), .sl false k l.length 1 (rowT strC l)], .agg [.v (.int .i64 r), .v (.int .i64 sz), .v (.string d), .sl false k2 l.length 1 (rowT strC l)]] (.v (.bool true)) [] := by
  refine fnT C.laws_eqHeld ?_
  refine run ?_
  exact r_end [] []
instance (k k2 : Nat) (r sz : Int) (d : ByteArray) (l : List ByteArray) : Con Try.prog F.laws_eqHeld [.agg [.v (.int .i64 r), .v (.int .i64 sz), .v (.string d), .sl false k l.length 1 (rowT strC l)], .agg [.v (.int .i64 r), .v (.int .i64 sz), .v (.string d), .sl false k2 l.length 1 (rowT strC l)]] (l.length ≤ 8796093022208) (.v (.bool true)) [] := ⟨fun h => laws_eqHeld k k2 r sz d l h⟩

end Go.TL

/- Lists of helds: sizes, copies, likeness, what is right. No conditions but those that are written. -/
namespace Go.TL
set_option linter.unusedSimpArgs false
open Go.Proofs Go.RowKit
attribute [local irreducible] wpOpsT wpT EndT Ex.seq Ex.block W

def totHS (l : List HeldV) : Int := l.length + sumI totH l
def bndHS (l : List HeldV) : Prop := l.length ≤ 2513169434916 ∧ ∀ h ∈ l, bndH h

theorem totHS_nn (l : List HeldV) : 0 ≤ totHS l := by have := sum_nn totH_nn l; unfold totHS; omega

set_option maxHeartbeats 4000000 in
theorem laws_szHeldS (k : Nat) (l : List HeldV) (left : Int) (hpre : bndHS l ∧ 0 ≤ left ∧ left ≤ 1048576) : CallsT Try.prog [] F.laws_szHeldS [.sl false k l.length 4 (rowT heldC l), .v (.int .i64 left)] (.v (.int .i64 (cutI (left - totHS l)))) [] := by
  refine fnT C.laws_szHeldS ?_
  obtain ⟨⟨hb1, hb2⟩, h0, h1⟩ := hpre
  have hn := sum_nn totH_nn l
  refine run ?_
  refine r_ifd (fun h => ?_) (fun h => ?_)
  · rw [show cutI (left - totHS l) = -1 from if_pos (by unfold totHS; omega)]
    refine run ?_
    exact r_end [] []
  refine run ?_
  refine r_for l.length (fun i => [(0, .sl false k l.length 4 (rowT heldC l)), (1, .v (.int .i64 (left - l.length - sumI totH (l.take i)))), (5, .v (.int .i64 i))]) (fun _ => []) (fun i => 0 ≤ left - l.length - sumI totH (l.take i)) [] [] (by simp [sumI]; omega) Gc.of (fun i hi hv => ?_) (fun hv => ?_)
  · have hs := sum_take totH hi
    have hs0 := sum_nn totH_nn (l.take i)
    have hs1 : bndP (nth l i).dig (nth l i).parts := hb2 _ (nth_mem hi)
    have hs2 := sum_le totH_nn l (i + 1)
    have hs3 : totP (nth l i).dig (nth l i).parts = totH (nth l i) := rfl
    refine run ?_
    have e : left - l.length - sumI totH (l.take i) - totH (nth l i) = left - l.length - sumI totH (l.take (i + 1)) := by omega
    rw [hs3, e]
    refine r_ifd (fun h => ?_) (fun h => ?_)
    · rw [show cutI (left - totHS l) = -1 from if_pos (by unfold cutI at h; unfold totHS; split at h <;> omega)]
      refine run ?_
      exact r_end [] []
    · have h2 : 0 ≤ left - l.length - sumI totH (l.take (i + 1)) := by unfold cutI at h; split at h <;> omega
      rw [show cutI (left - l.length - sumI totH (l.take (i + 1))) = left - l.length - sumI totH (l.take (i + 1)) from if_neg (by omega)]
      refine run ?_
      exact ⟨[], [], Gc.of, by omega⟩
  · rw [show cutI (left - totHS l) = left - l.length - sumI totH (l.take l.length) by rw [List.take_length] at *; unfold cutI totHS; rw [if_neg (by omega)]; omega]
    refine run ?_
    exact r_end [] []
instance (k : Nat) (l : List HeldV) (left : Int) : Con Try.prog F.laws_szHeldS [.sl false k l.length 4 (rowT heldC l), .v (.int .i64 left)] (bndHS l ∧ 0 ≤ left ∧ left ≤ 1048576) (.v (.int .i64 (cutI (left - totHS l)))) [] := ⟨fun h => laws_szHeldS k l left h⟩

/-- A new row of helds, before anything is put into it. -/
def zHeld : HeldV := ⟨0, 0, ⟨#[]⟩, []⟩
def zHeldC (_ : Unit) : List T := [.v (.int .i64 0), .v (.int .i64 0), .v (.string ⟨#[]⟩), .v (.slice none 0 0)]
instance : RowE zHeldC 4 := ⟨⟨fun _ => rfl, fun _ => rfl⟩⟩
@[go_sem] theorem mkR_held (n : Nat) : mkR [.v (.int .i64 0), .v (.int .i64 0), .v (.string ⟨#[]⟩), .v (.slice none 0 0)] n = ((List.replicate n ()).length, rowT zHeldC (List.replicate n ())) := mkR_enc zHeldC () n
theorem wk_held (n : Nat) : Wks (rowT zHeldC (List.replicate n ())) (rowT heldC (List.replicate n zHeld)) := by
  have := Wks.row (e1 := zHeldC) (e2 := heldC) (fun _ => zHeld) (fun _ => .cons (.refl _) (.cons (.refl _) (.cons (.refl _) (.cons (.nil _ _) .nil)))) (List.replicate n ())
  rwa [List.map_replicate] at this

set_option maxHeartbeats 4000000 in
theorem laws_toHeldS (k : Nat) (l : List HeldV) (hpre : bndHS l) : CallsT Try.prog [] F.laws_toHeldS [.sl false k l.length 4 (rowT heldC l)] (.sl false 0 l.length 4 (rowT heldC l)) [] := by
  refine fnT C.laws_toHeldS ?_
  obtain ⟨hb1, hb2⟩ := hpre
  have hwk := wk_held l.length
  refine run ?_
  rw [Int.toNat_natCast, List.length_replicate]
  refine r_for l.length (fun i => [(0, .sl false k l.length 4 (rowT heldC l)), (3, .ref 0 [] 0 l.length), (4, .v (.int .i64 i))]) (fun i => [⟨4, true, rowT heldC (l.take i ++ (List.replicate l.length zHeld).drop i)⟩]) (fun _ => True) [0] [] trivial Gc.of (fun i hi _ => ?_) (fun _ => ?_)
  · have hs1 : bndP (nth l i).dig (nth l i).parts := hb2 _ (nth_mem hi)
    have hs2 := hs1.2.1
    refine run ?_
    refine r_sto (enc := heldC) _ i (nth l i) ?_
    rw [set_mix hi (by simp)]
    refine run ?_
    exact ⟨[0], [], Gc.of, trivial⟩
  · rw [List.take_length, List.drop_of_length_le (by simp), List.append_nil]
    refine run ?_
    exact r_end [] [0]
instance (k : Nat) (l : List HeldV) : Con Try.prog F.laws_toHeldS [.sl false k l.length 4 (rowT heldC l)] (bndHS l) (.sl false 0 l.length 4 (rowT heldC l)) [] := ⟨fun h => laws_toHeldS k l h⟩

set_option maxHeartbeats 4000000 in
theorem laws_eqHeldS (k k2 : Nat) (l : List HeldV) (hpre : bndHS l) : CallsT Try.prog [] F.laws_eqHeldS [.sl false k l.length 4 (rowT heldC l), .sl false k2 l.length 4 (rowT heldC l)] (.v (.bool true)) [] := by
  refine fnT C.laws_eqHeldS ?_
  obtain ⟨hb1, hb2⟩ := hpre
  refine run ?_
  refine r_for l.length (fun i => [(0, .sl false k l.length 4 (rowT heldC l)), (1, .sl false k2 l.length 4 (rowT heldC l)), (5, .v (.int .i64 i))]) (fun _ => []) (fun _ => True) [] [] trivial Gc.of (fun i hi _ => ?_) (fun _ => ?_)
  · have hs1 : bndP (nth l i).dig (nth l i).parts := hb2 _ (nth_mem hi)
    have hs2 := hs1.2.1
    refine run ?_
    exact ⟨[], [], Gc.of, trivial⟩
  · refine run ?_
    exact r_end [] []
instance (k k2 : Nat) (l : List HeldV) : Con Try.prog F.laws_eqHeldS [.sl false k l.length 4 (rowT heldC l), .sl false k2 l.length 4 (rowT heldC l)] (bndHS l) (.v (.bool true)) [] := ⟨fun h => laws_eqHeldS k k2 l h⟩

end Go.TL

/- What is right of a list of helds. No conditions but those that are written. -/
namespace Go.TL
set_option linter.unusedSimpArgs false
open Go.Proofs Go.RowKit
attribute [local irreducible] wpOpsT wpT EndT Ex.seq Ex.block W

def heldP (l : List HeldV) (i : Nat) : Prop := (1 ≤ (nth l i).rel ∧ (nth l i).rel ≤ 1000) ∧ ¬ ((0 : Int) < i ∧ (nth l i).rel ≤ (nth l ((i : Int) - 1)).rel) ∧ parcelP (nth l i).size (nth l i).dig (nth l i).parts
instance (l : List HeldV) (i : Nat) : Decidable (heldP l i) := inferInstanceAs (Decidable (_ ∧ _))
def heldsP (l : List HeldV) : Prop := l.length ≤ 8 ∧ ∀ i, i < l.length → heldP l i
instance (l : List HeldV) : Decidable (heldsP l) := inferInstanceAs (Decidable (_ ∧ _))

set_option maxHeartbeats 4000000 in
theorem spec_HeldsOk (k : Nat) (l : List HeldV) (hpre : bndHS l) : CallsT Try.prog [] F.spec_HeldsOk [.sl false k l.length 4 (rowT heldC l)] (.v (.bool (decide (heldsP l)))) [] := by
  refine fnT C.spec_HeldsOk ?_
  obtain ⟨hb1, hb2⟩ := hpre
  refine run ?_
  refine r_ifd (fun h => ?_) (fun h => ?_)
  · refine run ?_
    refine r_endF ?_
    unfold heldsP; omega
  refine run ?_
  refine r_for l.length (fun i => [(0, .sl false k l.length 4 (rowT heldC l)), (3, .v (.int .i64 i))]) (fun _ => []) (fun i => ∀ j, j < i → heldP l j) [] [] (fun j hj => absurd hj (Nat.not_lt_zero _)) Gc.of (fun i hi hv => ?_) (fun hv => ?_)
  · have hs1 : bndP (nth l i).dig (nth l i).parts := hb2 _ (nth_mem hi)
    have hs2 := hs1.2.1
    refine run ?_
    refine r_ifd (fun h2 => ?_) (fun h2 => ?_)
    · refine run ?_
      refine r_endF ?_
      intro hp
      have := hp.2 i hi
      unfold heldP at this
      grind
    · refine run ?_
      refine ⟨[], [], Gc.of, fun j hj => ?_⟩
      rcases Nat.lt_or_ge j i with hlt | hge
      · exact hv j hlt
      · obtain rfl : j = i := by omega
        unfold heldP
        grind
  · refine run ?_
    refine r_endT ?_
    exact ⟨by omega, hv⟩
instance (k : Nat) (l : List HeldV) : Con Try.prog F.spec_HeldsOk [.sl false k l.length 4 (rowT heldC l)] (bndHS l) (.v (.bool (decide (heldsP l)))) [] := ⟨fun h => spec_HeldsOk k l h⟩

set_option maxHeartbeats 4000000 in
theorem impl_HeldsOk (k : Nat) (l : List HeldV) (hpre : bndHS l) : CallsT Try.prog [] F.impl_HeldsOk [.sl false k l.length 4 (rowT heldC l)] (.v (.bool (decide (heldsP l)))) [] := by
  refine fnT C.impl_HeldsOk ?_
  obtain ⟨hb1, hb2⟩ := hpre
  refine run ?_
  refine r_for l.length (fun i => [(0, .sl false k l.length 4 (rowT heldC l)), (5, .sl false k l.length 4 (rowT heldC l)), (6, .v (.int .i64 l.length)), (7, .v (.int .i64 i))]) (fun _ => []) (fun i => ∀ j, j < i → heldP l j) [] [] (fun j hj => absurd hj (Nat.not_lt_zero _)) Gc.of (fun i hi hv => ?_) (fun hv => ?_)
  · have hs1 : bndP (nth l i).dig (nth l i).parts := hb2 _ (nth_mem hi)
    have hs2 := hs1.2.1
    refine run ?_
    refine r_ifd (fun h2 => ?_) (fun h2 => ?_)
    · refine run ?_
      refine r_endF ?_
      intro hp
      have := hp.2 i hi
      unfold heldP at this
      grind
    · refine run ?_
      refine ⟨[], [], Gc.of, fun j hj => ?_⟩
      rcases Nat.lt_or_ge j i with hlt | hge
      · exact hv j hlt
      · obtain rfl : j = i := by omega
        unfold heldP
        grind
  · refine run ?_
    exact r_endb ⟨fun (h : (l.length : Int) ≤ 8) => ⟨by omega, hv⟩, fun h => by have := h.1; omega⟩
instance (k : Nat) (l : List HeldV) : Con Try.prog F.impl_HeldsOk [.sl false k l.length 4 (rowT heldC l)] (bndHS l) (.v (.bool (decide (heldsP l)))) [] := ⟨fun h => impl_HeldsOk k l h⟩

end Go.TL
