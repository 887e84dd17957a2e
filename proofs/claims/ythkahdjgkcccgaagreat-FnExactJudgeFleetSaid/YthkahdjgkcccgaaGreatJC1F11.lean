/- Texts joined. No conditions but those that are written. -/
import Derived.Test.YthkahdjgkcccgaaGreatA7
import Derived.Test.YthkahdjgkcccgaaGreatTClo
import Derived.Test.YthkahdjgkcccgaaGreatJShJSh2
import Derived.Test.YthkahdjgkcccgaaGreatJH1S8
import Derived.Test.YthkahdjgkcccgaaGreatF0
import Derived.Test.YthkahdjgkcccgaaGreatF7
import Derived.Test.YthkahdjgkcccgaaGreatTDr3
import Derived.Test.YthkahdjgkcccgaaGreatF10
/- Helds are found by their release. No conditions but those that are written. -/
namespace Go.TL
set_option linter.unusedSimpArgs false
open Go.Proofs Go.RowKit
attribute [local irreducible] wpOpsT wpT EndT Ex.seq Ex.block W

def findH (l : List HeldV) (r : Int) : Int := if l.findIdx (fun h => decide (h.rel = r)) < l.length then (l.findIdx (fun h => decide (h.rel = r)) : Int) else -1
theorem find_at {l : List HeldV} {r : Int} {i : Nat} (hi : i < l.length) (h : (nth l i).rel = r) (hv : ∀ j, j < i → (nth l j).rel ≠ r) : findH l r = i := by
  have e : l.findIdx (fun h => decide (h.rel = r)) = i := by
    rw [List.findIdx_eq hi]
    rw [nth_nat hi] at h
    refine ⟨by simpa using h, fun j hj => ?_⟩
    have := hv j hj
    rw [nth_nat (by omega)] at this
    simpa using this
  unfold findH
  rw [e, if_pos hi]
theorem find_no {l : List HeldV} {r : Int} (hv : ∀ j, j < l.length → (nth l j).rel ≠ r) : findH l r = -1 := by
  unfold findH
  rw [if_neg]
  intro h
  have h2 := List.findIdx_getElem (w := h)
  have := hv _ h
  rw [nth_nat h] at this
  simp only [decide_eq_true_eq] at h2
  exact this h2
theorem find_b (l : List HeldV) (r : Int) : -1 ≤ findH l r ∧ findH l r < l.length := by unfold findH; split <;> omega

set_option maxHeartbeats 4000000 in
theorem spec_l14Find (k : Nat) (l : List HeldV) (r : Int) (hpre : l.length ≤ 2513169434916) : CallsT Tryz.prog [] F.spec_l14Find [.sl false k l.length 4 (rowT heldC l), .v (.int .i64 r)] (.v (.int .i64 (findH l r))) [] := by
  refine fnT C.spec_l14Find ?_
  refine run ?_
  refine r_for l.length (fun i => [(0, .sl false k l.length 4 (rowT heldC l)), (1, .v (.int .i64 r)), (5, .v (.int .i64 i))]) (fun _ => []) (fun i => ∀ j, j < i → (nth l j).rel ≠ r) [] [] (fun j hj => absurd hj (Nat.not_lt_zero _)) Gc.of (fun i hi hv => ?_) (fun hv => ?_)
  · refine run ?_
    refine r_ifd (fun h => ?_) (fun h => ?_)
    · rw [find_at hi h hv]
      refine run ?_
      exact r_end [] []
    · refine run ?_
      refine ⟨[], [], Gc.of, fun j hj => ?_⟩
      rcases Nat.lt_or_ge j i with hlt | hge
      · exact hv j hlt
      · obtain rfl : j = i := by omega
        exact h
  · rw [find_no hv]
    refine run ?_
    exact r_end [] []
instance (k : Nat) (l : List HeldV) (r : Int) : Con Tryz.prog F.spec_l14Find [.sl false k l.length 4 (rowT heldC l), .v (.int .i64 r)] (l.length ≤ 2513169434916) (.v (.int .i64 (findH l r))) [] := ⟨fun h => spec_l14Find k l r h⟩

set_option maxHeartbeats 4000000 in
theorem impl_heldAt_1 (k k2 : Nat) (a sz r : Int) (d : ByteArray) (l : List ByteArray) : CallsT Tryz.prog [] F.impl_heldAt_1 [.agg [.v (.int .i64 a), .v (.int .i64 sz), .v (.string d), .sl false k l.length 1 (rowT strC l)], .pz k2 [.v (.int .i64 r)] 0] (.v (.bool (decide (a = r)))) [] := by
  refine fnT C.impl_heldAt_1 ?_
  refine run ?_
  exact r_end [] []
instance (k k2 : Nat) (a sz r : Int) (d : ByteArray) (l : List ByteArray) : Con Tryz.prog F.impl_heldAt_1 [.agg [.v (.int .i64 a), .v (.int .i64 sz), .v (.string d), .sl false k l.length 1 (rowT strC l)], .pz k2 [.v (.int .i64 r)] 0] True (.v (.bool (decide (a = r)))) [] := ⟨fun _ => impl_heldAt_1 k k2 a sz r d l⟩

set_option maxHeartbeats 4000000 in
theorem slices_IndexFunc_Held (k k2 : Nat) (l : List HeldV) (r : Int) (hpre : l.length ≤ 2513169434916) : CallsT Tryz.prog [] F.slices_IndexFunc_Held [.sl false k l.length 4 (rowT heldC l), .clo 129 [.pz k2 [.v (.int .i64 r)] 0]] (.v (.int .i64 (findH l r))) [] := by
  refine fnT C.slices_IndexFunc_Held ?_
  refine run ?_
  refine r_for l.length (fun i => [(0, .sl false k l.length 4 (rowT heldC l)), (1, .clo 129 [.pz k2 [.v (.int .i64 r)] 0]), (7, .v (.int .i64 l.length)), (8, .v (.int .i64 i))]) (fun _ => []) (fun i => ∀ j, j < i → (nth l j).rel ≠ r) [] [] (fun j hj => absurd hj (Nat.not_lt_zero _)) Gc.of (fun i hi hv => ?_) (fun hv => ?_)
  · refine run ?_
    refine r_clo ?_
    refine run ?_
    refine r_ifd (fun h => ?_) (fun h => ?_)
    · rw [find_at hi h hv]
      refine run ?_
      exact r_end [] []
    · refine run ?_
      refine ⟨[], [], Gc.of, fun j hj => ?_⟩
      rcases Nat.lt_or_ge j i with hlt | hge
      · exact hv j hlt
      · obtain rfl : j = i := by omega
        exact h
  · rw [find_no hv]
    refine run ?_
    exact r_end [] []
instance (k k2 : Nat) (l : List HeldV) (r : Int) : Con Tryz.prog F.slices_IndexFunc_Held [.sl false k l.length 4 (rowT heldC l), .clo 129 [.pz k2 [.v (.int .i64 r)] 0]] (l.length ≤ 2513169434916) (.v (.int .i64 (findH l r))) [] := ⟨fun h => slices_IndexFunc_Held k k2 l r h⟩

set_option maxHeartbeats 4000000 in
theorem impl_heldAt (k : Nat) (l : List HeldV) (r : Int) (hpre : l.length ≤ 2513169434916) : CallsT Tryz.prog [] F.impl_heldAt [.sl false k l.length 4 (rowT heldC l), .v (.int .i64 r)] (.v (.int .i64 (findH l r))) [] := by
  refine fnT C.impl_heldAt ?_
  refine run ?_
  exact r_end [] []
instance (k : Nat) (l : List HeldV) (r : Int) : Con Tryz.prog F.impl_heldAt [.sl false k l.length 4 (rowT heldC l), .v (.int .i64 r)] (l.length ≤ 2513169434916) (.v (.int .i64 (findH l r))) [] := ⟨fun h => impl_heldAt k l r h⟩

end Go.TL

/- What a parcel lacks. No conditions but those that are written. -/
namespace Go.TL
set_option linter.unusedSimpArgs false
open Go.Proofs Go.RowKit
attribute [local irreducible] wpOpsT wpT EndT Ex.seq Ex.block W

def lackL (l : List ByteArray) (n : Nat) : List Int := ((List.range n).filter fun i : Nat => decide (nth l (i : Int) = ⟨#[]⟩)).map fun i : Nat => (i : Int)
@[go_sem] theorem lack_0 (l : List ByteArray) : lackL l 0 = [] := rfl
theorem lack_yes {l : List ByteArray} {i : Nat} (h : nth l (i : Nat) = ⟨#[]⟩) : lackL l (i + 1) = lackL l i ++ [(i : Int)] := by
  unfold lackL
  rw [List.range_succ, List.filter_append, List.map_append]
  simp [h]
theorem lack_no {l : List ByteArray} {i : Nat} (h : ¬ nth l (i : Nat) = ⟨#[]⟩) : lackL l (i + 1) = lackL l i := by
  unfold lackL
  rw [List.range_succ, List.filter_append, List.map_append]
  simp [h]
theorem lack_len (l : List ByteArray) (n : Nat) : (lackL l n).length ≤ n := by
  unfold lackL
  rw [List.length_map]
  exact Nat.le_trans (List.length_filter_le ..) (by simp)
theorem lack_none {l : List ByteArray} : ∀ {n : Nat}, (lackL l n).length = 0 ↔ ∀ i, i < n → ¬ nth l (i : Nat) = ⟨#[]⟩
  | 0 => by simp [lackL]
  | n + 1 => by
    by_cases h : nth l (n : Nat) = ⟨#[]⟩
    · rw [lack_yes h]
      constructor
      · intro h2; simp at h2
      · intro h2; exact absurd h (h2 n (by omega))
    · rw [lack_no h, lack_none]
      constructor
      · intro h2 i hi
        rcases Nat.lt_or_ge i n with hlt | hge
        · exact h2 i hlt
        · obtain rfl : i = n := by omega
          exact h
      · intro h2 i hi; exact h2 i (by omega)

/-- What a parcel lacks; of a wrong one: nothing. -/
def lacksP (sz : Int) (d : ByteArray) (l : List ByteArray) : List Int := if parcelP sz d l then lackL l l.length else []

set_option maxHeartbeats 4000000 in
theorem impl_ParcelLacks (k : Nat) (sz : Int) (d : ByteArray) (l : List ByteArray) (hpre : l.length ≤ 100000000000000000) : CallsT Tryz.prog [] F.impl_ParcelLacks [.agg [.v (.int .i64 sz), .v (.string d), .sl false k l.length 1 (rowT strC l)]] (.sl false 0 (lacksP sz d l).length 1 (rowT i64C (lacksP sz d l))) [] := by
  refine fnT C.impl_ParcelLacks ?_
  refine run ?_
  refine r_ifd (fun h => ?_) (fun h => ?_)
  · rw [show lacksP sz d l = [] from if_neg h]
    refine run ?_
    exact r_end [] [0, 1]
  · have h := Decidable.not_not.1 h
    rw [show lacksP sz d l = lackL l l.length from if_pos h]
    have hl : (l.length : Int) ≤ 63 := by have := partsN_b sz; have := h.2.2.1; omega
    refine run ?_
    refine r_for l.length (fun i => [(1, .ptr 0 [] 0), (3, .ref 1 [] 0 (lackL l i).length), (12, .sl false k l.length 1 (rowT strC l)), (13, .v (.int .i64 l.length)), (14, .v (.int .i64 i))]) (fun i => [⟨0, true, [.v (.int .i64 sz), .v (.string d), .sl false k l.length 1 (rowT strC l)]⟩, ⟨1, true, rowT i64C (lackL l i)⟩]) (fun _ => True) [0, 1] [] trivial Gc.of (fun i hi _ => ?_) (fun _ => ?_)
    · have hk := lack_len l i
      refine run ?_
      refine r_ifd (fun h2 => ?_) (fun h2 => ?_)
      · refine run ?_
        rw [← lack_yes h2]
        exact ⟨[0, 3], [], Gc.of, trivial⟩
      · refine run ?_
        rw [← lack_no h2]
        exact ⟨[0, 1], [], Gc.of, trivial⟩
    · refine run ?_
      exact r_end [] [1]
instance (k : Nat) (sz : Int) (d : ByteArray) (l : List ByteArray) : Con Tryz.prog F.impl_ParcelLacks [.agg [.v (.int .i64 sz), .v (.string d), .sl false k l.length 1 (rowT strC l)]] (l.length ≤ 100000000000000000) (.sl false 0 (lacksP sz d l).length 1 (rowT i64C (lacksP sz d l))) [] := ⟨fun h => impl_ParcelLacks k sz d l h⟩

end Go.TL

/- Parcels that are whole, and held texts, both sides. No conditions but those that are written. -/
namespace Go.TL
set_option linter.unusedSimpArgs false
open Go.Proofs Go.RowKit
attribute [local irreducible] wpOpsT wpT EndT Ex.seq Ex.block W

theorem str_bytes (s : ByteArray) : Bytes (strL s) := bytesP_str s
def catL (l : List ByteArray) : List UInt8 := (l.map (·.data.toList)).flatten
def catB (l : List ByteArray) : ByteArray := ⟨(catL l).toArray⟩
theorem catB_size (l : List ByteArray) : (catB l).size = (catL l).length := by simp [catB, ByteArray.size]
theorem catL_app (a b : List ByteArray) : catL (a ++ b) = catL a ++ catL b := by simp [catL]
theorem catB_0 : catB [] = ⟨#[]⟩ := rfl
theorem catB_step {l : List ByteArray} {i : Nat} (h : i < l.length) : catB (l.take i) ++ nth l (i : Nat) = catB (l.take (i + 1)) := by
  rw [take_nth h]
  apply ByteArray.ext
  rw [ByteArray.data_append]
  unfold catB
  rw [catL_app]
  simp [catL]
theorem cat_take (l : List ByteArray) (i : Nat) : (catL (l.take i)).length ≤ (catL l).length := by
  have := congrArg catL (List.take_append_drop i l)
  rw [catL_app] at this
  have h2 := congrArg List.length this
  rw [List.length_append] at h2
  omega
theorem cat_at {l : List ByteArray} {i : Nat} (h : i < l.length) : (catL (l.take i)).length + (nth l (i : Nat)).size ≤ (catL l).length := by
  have h1 := cat_take l (i + 1)
  rw [take_nth h, catL_app, List.length_append] at h1
  have h2 : (catL [nth l (i : Nat)]).length = (nth l (i : Nat)).size := by simp [catL]
  omega
theorem join_cat (l : List ByteArray) : Lib.join (l.map (·.data.toList)) [] = catL l := by
  cases l with
  | nil => rfl
  | cons x l => rw [List.map_cons, Lib.join_cons, catL, List.map_cons, List.flatten_cons, Lib.joinTail]; congr 2; exact List.map_id _
theorem joinB_cat (l : List ByteArray) : joinB l ⟨#[]⟩ = catB l := by
  unfold joinB catB
  rw [← join_cat]
theorem joinLen_cat (l : List ByteArray) : joinLen l ⟨#[]⟩ = (catL l).length := by
  unfold joinLen
  rw [← join_cat]
theorem cat_tot (l : List ByteArray) : ((catL l).length : Int) ≤ totS l := by
  have : ∀ l : List ByteArray, ((catL l).length : Int) = sumI szS l := by
    intro l
    induction l with
    | nil => rfl
    | cons x l ih =>
      rw [show catL (x :: l) = catL [x] ++ catL l from (catL_app [x] l), List.length_append, show x :: l = [x] ++ l from rfl, sum_app]
      rw [Int.natCast_add, ih]
      simp [catL, sumI, szS]
  unfold totS
  rw [this]; omega

/-- What a parcel's text is, and what it lacks of being whole. -/
def wholeP (sz : Int) (d : ByteArray) (l : List ByteArray) : ByteArray × Int :=
  if ¬ parcelP sz d l then (⟨#[]⟩, 1) else if ¬ (∀ i, i < l.length → ¬ nth l (i : Nat) = ⟨#[]⟩) then (⟨#[]⟩, 2) else if ¬ strOfT (shaL (strL (catB l))) = d then (⟨#[]⟩, 3) else (catB l, 0)
def bndW (l : List ByteArray) : Prop := l.length ≤ 8796093022208 ∧ (catL l).length ≤ 1048576

set_option maxHeartbeats 4000000 in
theorem spec_ParcelWhole (k : Nat) (sz : Int) (d : ByteArray) (l : List ByteArray) (hpre : bndW l) : CallsT Tryz.prog [] F.spec_ParcelWhole [.agg [.v (.int .i64 sz), .v (.string d), .sl false k l.length 1 (rowT strC l)]] (.tup [.v (.string ((wholeP sz d l).1)), .v (.int .i64 ((wholeP sz d l).2))]) [] := by
  refine fnT C.spec_ParcelWhole ?_
  obtain ⟨hl, hc⟩ := hpre
  refine run ?_
  refine r_ifd (fun h => ?_) (fun h => ?_)
  · rw [wholeP, if_pos h]
    refine run ?_
    exact r_end [] []
  refine run ?_
  refine r_for l.length (fun i => [(1, .ptr 0 [] 0), (4, .v (.string (catB (l.take i)))), (5, .v (.int .i64 i))]) (fun _ => [⟨0, true, [.v (.int .i64 sz), .v (.string d), .sl false k l.length 1 (rowT strC l)]⟩]) (fun i => ∀ j, j < i → ¬ nth l (j : Nat) = ⟨#[]⟩) [0] [] all_0 Gc.of (fun i hi hv => ?_) (fun hv => ?_)
  · have h1 := cat_at hi
    have h2 := catB_size (l.take i)
    refine run ?_
    refine r_ifd (fun h3 => ?_) (fun h3 => ?_)
    · rw [wholeP, if_neg h, if_pos (fun hh => hh i hi h3)]
      refine run ?_
      exact r_end [] []
    · refine run ?_
      rw [catB_step hi]
      exact ⟨[0], [], Gc.of, all_step hv h3⟩
  · rw [List.take_length]
    have h1 := catB_size l
    have h2 := strL_length (catB l)
    have h3 := str_bytes (catB l)
    refine run ?_
    refine r_ifd (fun h4 => ?_) (fun h4 => ?_)
    · rw [wholeP, if_neg h, if_neg (fun hh => hh hv), if_pos h4]
      refine run ?_
      exact r_end [] []
    · rw [wholeP, if_neg h, if_neg (fun hh => hh hv), if_neg h4]
      refine run ?_
      exact r_end [] []
instance (k : Nat) (sz : Int) (d : ByteArray) (l : List ByteArray) : Con Tryz.prog F.spec_ParcelWhole [.agg [.v (.int .i64 sz), .v (.string d), .sl false k l.length 1 (rowT strC l)]] (bndW l) (.tup [.v (.string ((wholeP sz d l).1)), .v (.int .i64 ((wholeP sz d l).2))]) [] := ⟨fun h => spec_ParcelWhole k sz d l h⟩

set_option maxHeartbeats 4000000 in
theorem impl_ParcelWhole (k : Nat) (sz : Int) (d : ByteArray) (l : List ByteArray) (hpre : bndW l) : CallsT Tryz.prog [] F.impl_ParcelWhole [.agg [.v (.int .i64 sz), .v (.string d), .sl false k l.length 1 (rowT strC l)]] (.tup [.v (.string ((wholeP sz d l).1)), .v (.int .i64 ((wholeP sz d l).2))]) [] := by
  refine fnT C.impl_ParcelWhole ?_
  obtain ⟨hl, hc⟩ := hpre
  have hj := strings_Join 1 l ⟨#[]⟩ (by rw [joinLen_cat]; omega) (by omega)
  rw [joinB_cat] at hj
  have h1 := catB_size l
  have h2 := strL_length (catB l)
  have h3 := str_bytes (catB l)
  refine run ?_
  refine r_callp true hj ?_
  refine run ?_
  refine r_ifd (fun h => ?_) (fun h => ?_)
  · rw [wholeP, if_pos h]
    refine run ?_
    exact r_end [] []
  have hp := Decidable.not_not.1 h
  have hla := lack_none (l := l) (n := l.length)
  rw [show lackL l l.length = lacksP sz d l from (if_pos hp).symm] at hla
  refine run ?_
  refine r_ifd (fun h5 => ?_) (fun h5 => ?_)
  · rw [wholeP, if_neg h, if_pos (fun hh => by have := hla.2 hh; omega)]
    refine run ?_
    exact r_end [] []
  have hv := hla.1 (by omega)
  refine run ?_
  refine r_ifd (fun h4 => ?_) (fun h4 => ?_)
  · rw [wholeP, if_neg h, if_neg (fun hh => hh hv), if_pos h4]
    refine run ?_
    exact r_end [] []
  · rw [wholeP, if_neg h, if_neg (fun hh => hh hv), if_neg h4]
    refine run ?_
    exact r_end [] []
instance (k : Nat) (sz : Int) (d : ByteArray) (l : List ByteArray) : Con Tryz.prog F.impl_ParcelWhole [.agg [.v (.int .i64 sz), .v (.string d), .sl false k l.length 1 (rowT strC l)]] (bndW l) (.tup [.v (.string ((wholeP sz d l).1)), .v (.int .i64 ((wholeP sz d l).2))]) [] := ⟨fun h => impl_ParcelWhole k sz d l h⟩

/-- What is held as a text under a release. -/
def textS (l : List HeldV) (r : Int) : ByteArray := if findH l r < 0 ∨ ¬ heldsP l then ⟨#[]⟩ else (wholeP (nth l (findH l r)).size (nth l (findH l r)).dig (nth l (findH l r)).parts).1
def textOk (l : List HeldV) (r : Int) : Prop := ¬ (findH l r < 0 ∨ ¬ heldsP l) ∧ (wholeP (nth l (findH l r)).size (nth l (findH l r)).dig (nth l (findH l r)).parts).2 = 0
instance (l : List HeldV) (r : Int) : Decidable (textOk l r) := inferInstanceAs (Decidable (_ ∧ _))
theorem held_bw {l : List HeldV} (h : totHS l ≤ 1048576) {x : Int} (h0 : 0 ≤ x) (hi : x < l.length) : bndW (nth l x).parts := by
  have h1 : totH (nth l x) ≤ sumI totH l := by
    have e : x = (x.toNat : Int) := by omega
    rw [e]
    have h1 := sum_take totH (l := l) (i := x.toNat) (by omega)
    have h2 := sum_le totH_nn l (x.toNat + 1)
    have h3 := sum_nn totH_nn (l.take x.toNat)
    omega
  have h2 := cat_tot (nth l x).parts
  have h3 : totH (nth l x) = (nth l x).dig.size + totS (nth l x).parts := rfl
  have h4 := sum_nn szS_nn (nth l x).parts
  unfold totHS at h
  have h5 : totS (nth l x).parts = (nth l x).parts.length + sumI szS (nth l x).parts := rfl
  exact ⟨by omega, by omega⟩

set_option maxHeartbeats 4000000 in
theorem spec_HeldText (k : Nat) (l : List HeldV) (r : Int) (hpre : bndHS l ∧ totHS l ≤ 1048576) : CallsT Tryz.prog [] F.spec_HeldText [.sl false k l.length 4 (rowT heldC l), .v (.int .i64 r)] (.tup [.v (.string (textS l r)), .v (.bool (decide (textOk l r)))]) [] := by
  refine fnT C.spec_HeldText ?_
  obtain ⟨hb, ht⟩ := hpre
  have hb1 := hb.1
  have hf := find_b l r
  refine run ?_
  refine r_ifd (fun h => ?_) (fun h => ?_)
  · rw [textS, if_pos h, decide_eq_false (fun hp : textOk l r => hp.1 h)]
    refine run ?_
    exact r_end [] []
  have hw := held_bw ht (x := findH l r) (by omega) hf.2
  have hbw : bndW (nth l (findH l r)).parts := hw
  rw [textS, if_neg h, show decide (textOk l r) = decide ((wholeP (nth l (findH l r)).size (nth l (findH l r)).dig (nth l (findH l r)).parts).2 = 0) from decide_eq_decide.2 ⟨fun hp => hp.2, fun hp => ⟨h, hp⟩⟩]
  refine run ?_
  exact r_end [] []
instance (k : Nat) (l : List HeldV) (r : Int) : Con Tryz.prog F.spec_HeldText [.sl false k l.length 4 (rowT heldC l), .v (.int .i64 r)] (bndHS l ∧ totHS l ≤ 1048576) (.tup [.v (.string (textS l r)), .v (.bool (decide (textOk l r)))]) [] := ⟨fun h => spec_HeldText k l r h⟩

set_option maxHeartbeats 4000000 in
theorem impl_HeldText (k : Nat) (l : List HeldV) (r : Int) (hpre : bndHS l ∧ totHS l ≤ 1048576) : CallsT Tryz.prog [] F.impl_HeldText [.sl false k l.length 4 (rowT heldC l), .v (.int .i64 r)] (.tup [.v (.string (textS l r)), .v (.bool (decide (textOk l r)))]) [] := by
  refine fnT C.impl_HeldText ?_
  obtain ⟨hb, ht⟩ := hpre
  have hb1 := hb.1
  have hf := find_b l r
  refine run ?_
  refine r_ifd (fun h => ?_) (fun h => ?_)
  · rw [textS, if_pos h, decide_eq_false (fun hp : textOk l r => hp.1 h)]
    refine run ?_
    exact r_end [] []
  have hw := held_bw ht (x := findH l r) (by omega) hf.2
  have hbw : bndW (nth l (findH l r)).parts := hw
  rw [textS, if_neg h, show decide (textOk l r) = decide ((wholeP (nth l (findH l r)).size (nth l (findH l r)).dig (nth l (findH l r)).parts).2 = 0) from decide_eq_decide.2 ⟨fun hp => hp.2, fun hp => ⟨h, hp⟩⟩]
  refine run ?_
  exact r_end [] []
instance (k : Nat) (l : List HeldV) (r : Int) : Con Tryz.prog F.impl_HeldText [.sl false k l.length 4 (rowT heldC l), .v (.int .i64 r)] (bndHS l ∧ totHS l ≤ 1048576) (.tup [.v (.string (textS l r)), .v (.bool (decide (textOk l r)))]) [] := ⟨fun h => impl_HeldText k l r h⟩

end Go.TL

/- Fleets: texts that are there, both sides. No conditions but those that are written. -/
namespace Go.TL
set_option linter.unusedSimpArgs false
open Go.Proofs Go.RowKit
attribute [local irreducible] wpOpsT wpT EndT Ex.seq Ex.block W

theorem text_nn {l : List HeldV} {r : Int} (h : textOk l r) : 0 ≤ findH l r := by
  have := h.1
  omega
theorem spec_HeldText' (k : Nat) (l : List HeldV) (r : Int) (hpre : bndHS l ∧ totHS l ≤ 1048576) : CallsT Tryz.prog [] F.spec_HeldText [.sl false k l.length 4 (rowT heldC l), .v (.int .i64 r)] (.tup [.v (.string (textS l r)), .v (.bool (decide (0 ≤ findH l r ∧ textOk l r)))]) [] := by
  rw [show decide (0 ≤ findH l r ∧ textOk l r) = decide (textOk l r) from decide_eq_decide.2 ⟨fun h => h.2, fun h => ⟨text_nn h, h⟩⟩]
  exact spec_HeldText k l r hpre
instance (k : Nat) (l : List HeldV) (r : Int) : Con Tryz.prog F.spec_HeldText [.sl false k l.length 4 (rowT heldC l), .v (.int .i64 r)] (bndHS l ∧ totHS l ≤ 1048576) (.tup [.v (.string (textS l r)), .v (.bool (decide (0 ≤ findH l r ∧ textOk l r)))]) [] := ⟨fun h => spec_HeldText' k l r h⟩
theorem held_at {l : List MemberV} {mail : List FlightV} (h : totFleet l mail ≤ 1048576) {i : Nat} (hi : i < l.length) : totHS (nth l i).helds ≤ 1048576 := by
  have h1 := sum_at totMemberV_nn hi
  have h2 := totFlightS_nn mail
  have h3 : totMemberV (nth l i) = totMember (nth l i).disk.files (nth l i).raft.hard.log (nth l i).raft.yes (nth l i).raft.next (nth l i).raft.mtch (nth l i).roll.rels (nth l i).roll.order (nth l i).helds := rfl
  have h4 := totRaft_nn (nth l i).raft.hard.log (nth l i).raft.yes (nth l i).raft.next (nth l i).raft.mtch
  have h5 := totRoll_nn (nth l i).roll.rels (nth l i).roll.order
  have h6 : 0 ≤ totDisk (nth l i).disk.files := totFileS_nn _
  unfold totFleet totMemberS at h
  unfold totMember at h3
  omega

/-- The text of a release is there, and as the roll says. -/
def hasQ (of : Int) (rels : List RelV) (act : Int) (order : List Int) (helds : List HeldV) (r : Int) : Prop :=
  relOk of rels act order r ∧ textOk helds r ∧ (nth helds (findH helds r)).size = (relF of rels act order r).size ∧ (nth helds (findH helds r)).dig = (relF of rels act order r).dig
instance (of : Int) (rels : List RelV) (act : Int) (order : List Int) (helds : List HeldV) (r : Int) : Decidable (hasQ of rels act order helds r) := inferInstanceAs (Decidable (_ ∧ _))
def hasM (m : MemberV) (r : Int) : Prop := hasQ m.roll.of m.roll.rels m.roll.act m.roll.order m.helds r
instance (m : MemberV) (r : Int) : Decidable (hasM m r) := inferInstanceAs (Decidable (hasQ ..))
def hasAll (m : MemberV) : Prop := ∀ j, j < m.roll.order.length → hasM m (nth m.roll.order (j : Nat))
instance (m : MemberV) : Decidable (hasAll m) := by unfold hasAll; infer_instance
def textsP (l : List MemberV) : Prop := ∀ i, i < l.length → (nth l (i : Nat)).up = true → hasAll (nth l (i : Nat))
def textsU (u : List MemberV) : Prop := ∀ i, i < u.length → hasAll (nth u (i : Nat))
instance (l : List MemberV) : Decidable (textsP l) := by unfold textsP; infer_instance
instance (l : List MemberV) : Decidable (textsU l) := by unfold textsU; infer_instance
theorem all_mem {p : MemberV → Prop} {l : List MemberV} : (∀ i, i < l.length → p (nth l (i : Nat))) ↔ ∀ m ∈ l, p m := by
  constructor
  · intro h m hm
    obtain ⟨i, hi, rfl⟩ := List.mem_iff_getElem.1 hm
    rw [← nth_get hi]
    exact h i hi
  · intro h i hi
    exact h _ (nth_mem hi)
theorem texts_iff (l : List MemberV) : textsP l ↔ textsU (upL l) := by
  rw [textsP, textsU, all_mem (p := fun m => m.up = true → hasAll m), all_mem (p := hasAll)]
  constructor
  · intro h m hm
    have := List.mem_filter.1 hm
    exact h m this.1 this.2
  · intro h m hm hu
    exact h m (List.mem_filter.2 ⟨hm, hu⟩)
theorem findR_mem {l : List RelV} {n : Int} (h : ∃ x ∈ l, x.no = n) : 0 ≤ findR l n := by
  obtain ⟨x, hx, hn⟩ := h
  have : l.findIdx (fun x => decide (x.no = n)) < l.length := List.findIdx_lt_length_of_exists ⟨x, hx, decide_eq_true hn⟩
  unfold findR findBy
  rw [if_pos this]; omega
theorem rel_found {of : Int} {rels : List RelV} {act : Int} {order : List Int} (h : rollP of rels act order) {j : Nat} (hj : j < order.length) : relOk of rels act order (nth order (j : Nat)) := by
  have hm : nth order (j : Nat) ∈ actL rels := by rw [h.2.2.2.1]; exact nth_mem hj
  obtain ⟨x, hx, he⟩ := List.mem_map.1 hm
  have := findR_mem ⟨x, (List.mem_filter.1 hx).1, he⟩
  intro hh
  rcases hh with hh | hh
  · omega
  · exact hh h
theorem up_roll {l : List MemberV} {of : Int} {mail : List FlightV} (h : fleetP of l mail) {i : Nat} (hi : i < l.length) (hu : (nth l i).up = true) : rollP (nth l i).roll.of (nth l i).roll.rels (nth l i).roll.act (nth l i).roll.order := by
  have hm := h.2.2.2.1 i hi
  unfold memAt memberP at hm
  rcases hm.2 with ⟨hn, _⟩ | ⟨_, _, _, _, _, hr, _⟩
  · exact absurd hu hn
  · exact hr

set_option maxHeartbeats 4000000 in
theorem impl_hasText (k0 k1 k2 k3 k4 k5 k6 k7 : Nat) (up : Prop) [Decidable up] (disk_room : Int) (disk_files : List FileV) (raft_id : Int) (raft_of : Int) (raft_role : Int) (raft_commit : Int) (raft_hard_term : Int) (raft_hard_vote : Int) (raft_hard_log : List EntryV) (raft_yes : List Int) (raft_next : List Int) (raft_mtch : List Int) (applied : Int) (roll_of : Int) (roll_rels : List RelV) (roll_act : Int) (roll_order : List Int) (helds : List HeldV) (r : Int) (hpre : bndMember disk_files raft_hard_log raft_yes raft_next raft_mtch roll_rels roll_order helds ∧ totRoll roll_rels roll_order ≤ 1048576 ∧ totHS helds ≤ 1048576) : CallsT Tryz.prog [] F.impl_hasText [.agg [.v (.bool (decide up)), .v (.int .i64 disk_room), .sl false k0 disk_files.length 3 (rowT fileC disk_files), .v (.int .i64 raft_id), .v (.int .i64 raft_of), .v (.int .i64 raft_role), .v (.int .i64 raft_commit), .v (.int .i64 raft_hard_term), .v (.int .i64 raft_hard_vote), .sl false k1 raft_hard_log.length 6 (rowT entryC raft_hard_log), .sl false k2 raft_yes.length 1 (rowT i64C raft_yes), .sl false k3 raft_next.length 1 (rowT i64C raft_next), .sl false k4 raft_mtch.length 1 (rowT i64C raft_mtch), .v (.int .i64 applied), .v (.int .i64 roll_of), .sl false k5 roll_rels.length 5 (rowT relC roll_rels), .v (.int .i64 roll_act), .sl false k6 roll_order.length 1 (rowT i64C roll_order), .sl false k7 helds.length 4 (rowT heldC helds)], .v (.int .i64 r)] (.v (.bool (decide (hasQ roll_of roll_rels roll_act roll_order helds r)))) [] := by
  refine fnT C.impl_hasText ?_
  obtain ⟨hb, hr, hh⟩ := hpre
  have hbr : bndRoll roll_rels roll_order ∧ totRoll roll_rels roll_order ≤ 1048576 := ⟨hb.2.2.1, hr⟩
  have hbh : bndHS helds ∧ totHS helds ≤ 1048576 := ⟨hb.2.2.2, hh⟩
  have hb1 := hb.2.2.2.1
  have hf := find_b helds r
  refine run ?_
  refine r_ifd (fun h => ?_) (fun h => ?_)
  · refine run ?_
    refine r_endF fun hp => ?_
    rcases h with h | h
    · exact h hp.1
    · exact h hp.2.1
  have h0 : relOk roll_of roll_rels roll_act roll_order r := Decidable.by_contra fun hn => h (.inl hn)
  have h1 : textOk helds r := Decidable.by_contra fun hn => h (.inr hn)
  have h2 := text_nn h1
  refine runC ?_
  refine r_callc ?_ (hp := dr_still)
  refine runC ?_
  refine r_do ?_ (hp := dr_chainc)
  refine run ?_
  refine r_endb ?_
  unfold hasQ
  exact ⟨fun hp => ⟨h0, h1, hp⟩, fun hp => hp.2.2⟩
instance (k0 k1 k2 k3 k4 k5 k6 k7 : Nat) (up : Prop) [Decidable up] (disk_room : Int) (disk_files : List FileV) (raft_id : Int) (raft_of : Int) (raft_role : Int) (raft_commit : Int) (raft_hard_term : Int) (raft_hard_vote : Int) (raft_hard_log : List EntryV) (raft_yes : List Int) (raft_next : List Int) (raft_mtch : List Int) (applied : Int) (roll_of : Int) (roll_rels : List RelV) (roll_act : Int) (roll_order : List Int) (helds : List HeldV) (r : Int) : Con Tryz.prog F.impl_hasText [.agg [.v (.bool (decide up)), .v (.int .i64 disk_room), .sl false k0 disk_files.length 3 (rowT fileC disk_files), .v (.int .i64 raft_id), .v (.int .i64 raft_of), .v (.int .i64 raft_role), .v (.int .i64 raft_commit), .v (.int .i64 raft_hard_term), .v (.int .i64 raft_hard_vote), .sl false k1 raft_hard_log.length 6 (rowT entryC raft_hard_log), .sl false k2 raft_yes.length 1 (rowT i64C raft_yes), .sl false k3 raft_next.length 1 (rowT i64C raft_next), .sl false k4 raft_mtch.length 1 (rowT i64C raft_mtch), .v (.int .i64 applied), .v (.int .i64 roll_of), .sl false k5 roll_rels.length 5 (rowT relC roll_rels), .v (.int .i64 roll_act), .sl false k6 roll_order.length 1 (rowT i64C roll_order), .sl false k7 helds.length 4 (rowT heldC helds)], .v (.int .i64 r)] (bndMember disk_files raft_hard_log raft_yes raft_next raft_mtch roll_rels roll_order helds ∧ totRoll roll_rels roll_order ≤ 1048576 ∧ totHS helds ≤ 1048576) (.v (.bool (decide (hasQ roll_of roll_rels roll_act roll_order helds r)))) [] := ⟨fun h => impl_hasText k0 k1 k2 k3 k4 k5 k6 k7 up disk_room disk_files raft_id raft_of raft_role raft_commit raft_hard_term raft_hard_vote raft_hard_log raft_yes raft_next raft_mtch applied roll_of roll_rels roll_act roll_order helds r h⟩

set_option maxHeartbeats 4000000 in
theorem impl_JudgeTexts (of : Int) (l : List MemberV) (mail : List FlightV) (hpre : bndF l mail) : CallsT Tryz.prog [] F.impl_JudgeTexts [.agg [.v (.int .i64 of), .sl false 0 l.length 19 (rowT memberC l), .sl false 0 mail.length 2 (rowT flightC mail)]] (.v (.bool (decide (fleetP of l mail ∧ textsP l)))) [] := by
  refine fnT C.impl_JudgeTexts ?_
  have hl := len_le hpre.2
  have hu := up_len l
  rw [decide_eq_decide.2 (and_congr_right fun _ => texts_iff l)]
  refine run ?_
  refine r_ifd (fun h => ?_) (fun h => ?_)
  · refine run ?_
    exact r_endF fun hp => h hp.1
  have h := Decidable.not_not.1 h
  have hbm : ∀ m ∈ upL l, bndMember m.disk.files m.raft.hard.log m.raft.yes m.raft.next m.raft.mtch m.roll.rels m.roll.order m.helds ∧ totRoll m.roll.rels m.roll.order ≤ 1048576 ∧ totHS m.helds ≤ 1048576 := by
    intro m hm
    obtain ⟨i, hi, rfl⟩ := List.mem_iff_getElem.1 (List.mem_filter.1 hm).1
    rw [← nth_get hi]
    exact ⟨bnd_at hpre.1 hi, (sizes_at hpre.2 hi).2, held_at hpre.2 hi⟩
  refine run ?_
  refine r_callp false (impl_upOf of l mail hl) ?_
  refine run ?_
  generalize upL l = u at *
  refine r_for u.length (fun i => [(1, .ptr 0 [] 0), (11, .sl false 0 u.length 19 (rowT memberC u)), (12, .v (.int .i64 u.length)), (13, .v (.int .i64 i))]) (fun _ => [⟨0, true, [.v (.int .i64 of), .sl false 0 l.length 19 (rowT memberC l), .sl false 0 mail.length 2 (rowT flightC mail)]⟩]) (fun i => ∀ i', i' < i → hasAll (nth u (i' : Nat))) [0] [] all_0 Gc.of (fun i hi hv => ?_) (fun hv => ?_)
  · have hm := hbm _ (nth_mem hi)
    have ho : (nth u (i : Nat)).roll.order.length * 8 ≤ 140737488351232 := hm.1.2.2.1.2
    refine run ?_
    refine r_for (nth u (i : Nat)).roll.order.length (fun j => [(1, .ptr 0 [] 0), (11, .sl false 0 u.length 19 (rowT memberC u)), (12, .v (.int .i64 u.length)), (13, .v (.int .i64 i)), (4, .ptr 1 [] 0), (19, .sl false 0 (nth u (i : Nat)).roll.order.length 1 (rowT i64C (nth u (i : Nat)).roll.order)), (20, .v (.int .i64 ((nth u (i : Nat)).roll.order.length))), (21, .v (.int .i64 j))]) (fun _ => [⟨0, true, [.v (.int .i64 of), .sl false 0 l.length 19 (rowT memberC l), .sl false 0 mail.length 2 (rowT flightC mail)]⟩, ⟨0, true, memberC (nth u (i : Nat))⟩]) (fun j => ∀ j', j' < j → hasM (nth u (i : Nat)) (nth (nth u (i : Nat)).roll.order (j' : Nat))) [0, 1] [] all_0 Gc.of (fun j hj hw => ?_) (fun hw => ?_)
    · refine run ?_
      refine r_ifd (fun h2 => ?_) (fun h2 => ?_)
      · refine run ?_
        exact r_endF fun hp => h2 (hp.2 i hi j hj)
      · refine run ?_
        exact ⟨[0, 1], [], Gc.of, all_step hw (Decidable.not_not.1 h2)⟩
    · refine run ?_
      exact ⟨[0], [], Gc.of, all_step hv hw⟩
  · refine run ?_
    exact r_endT ⟨h, hv⟩
instance (of : Int) (l : List MemberV) (mail : List FlightV) : Con Tryz.prog F.impl_JudgeTexts [.agg [.v (.int .i64 of), .sl false 0 l.length 19 (rowT memberC l), .sl false 0 mail.length 2 (rowT flightC mail)]] (bndF l mail) (.v (.bool (decide (fleetP of l mail ∧ textsP l)))) [] := ⟨fun h => impl_JudgeTexts of l mail h⟩

set_option maxHeartbeats 4000000 in
theorem spec_JudgeTexts (k0 k1 : Nat) (of : Int) (l : List MemberV) (mail : List FlightV) (hpre : bndF l mail) : CallsT Tryz.prog [] F.spec_JudgeTexts [.agg [.v (.int .i64 of), .sl false k0 l.length 19 (rowT memberC l), .sl false k1 mail.length 2 (rowT flightC mail)]] (.v (.bool (decide (fleetP of l mail ∧ textsP l)))) [] := by
  refine fnT C.spec_JudgeTexts ?_
  have hb1 := hpre.1.1.1
  refine run ?_
  refine r_ifd (fun h => ?_) (fun h => ?_)
  · refine run ?_
    exact r_endF fun hp => h hp.1
  have h := Decidable.not_not.1 h
  have hlen := h.2.1
  have hof5 : 1 ≤ of ∧ of ≤ 5 := by have := h.1; unfold ofP at this; omega
  refine run ?_
  refine r_for l.length (fun i => [(1, .ptr 0 [] 0), (3, .v (.int .i64 i))]) (fun _ => [⟨0, true, [.v (.int .i64 of), .sl false k0 l.length 19 (rowT memberC l), .sl false k1 mail.length 2 (rowT flightC mail)]⟩]) (fun i => ∀ i', i' < i → (nth l (i' : Nat)).up = true → hasAll (nth l (i' : Nat))) [0] [] all_0 Gc.of (fun i hi hv => ?_) (fun hv => ?_)
  · have hm := bnd_at hpre.1 hi
    have hbr : bndRoll (nth l (i : Nat)).roll.rels (nth l (i : Nat)).roll.order ∧ totRoll (nth l (i : Nat)).roll.rels (nth l (i : Nat)).roll.order ≤ 1048576 := ⟨hm.2.2.1, (sizes_at hpre.2 hi).2⟩
    have hbh : bndHS (nth l (i : Nat)).helds ∧ totHS (nth l (i : Nat)).helds ≤ 1048576 := ⟨hm.2.2.2, held_at hpre.2 hi⟩
    have hbh1 : (nth l (i : Nat)).helds.length ≤ 2513169434916 := hbh.1.1
    have ho : (nth l (i : Nat)).roll.order.length * 8 ≤ 140737488351232 := hbr.1.2
    refine run ?_
    by_cases hup : (nth l (i : Nat)).up = true
    · refine r_for (nth l (i : Nat)).roll.order.length (fun j => [(1, .ptr 0 [] 0), (3, .v (.int .i64 i)), (4, .ptr 1 [] 0), (5, .v (.int .i64 j))]) (fun _ => [⟨0, true, [.v (.int .i64 of), .sl false k0 l.length 19 (rowT memberC l), .sl false k1 mail.length 2 (rowT flightC mail)]⟩, ⟨0, true, memberK k0 (nth l (i : Nat))⟩]) (fun j => ∀ j', j' < j → hasM (nth l (i : Nat)) (nth (nth l (i : Nat)).roll.order (j' : Nat))) [0, 1] [] all_0 Gc.of (fun j hj hw => ?_) (fun hw => ?_)
      · have hfb := find_b (nth l (i : Nat)).helds (nth (nth l (i : Nat)).roll.order (j : Nat))
        have hro := rel_found (up_roll h hi hup) hj
        refine run ?_
        refine r_ifd (fun h2 => ?_) (fun h2 => absurd (And.intro (Int.ofNat_lt.2 hj) hup) h2)
        refine runC ?_
        refine r_callc ?_
        refine runC ?_
        refine r_callc ?_ (hp := dr_still)
        refine runC ?_
        refine r_do ?_ (hp := dr_chainc)
        refine run ?_
        have hq : hasM (nth l (i : Nat)) (nth (nth l (i : Nat)).roll.order (j : Nat)) ↔ relOk (nth l (i : Nat)).roll.of (nth l (i : Nat)).roll.rels (nth l (i : Nat)).roll.act (nth l (i : Nat)).roll.order (nth (nth l (i : Nat)).roll.order (j : Nat)) ∧ textOk (nth l (i : Nat)).helds (nth (nth l (i : Nat)).roll.order (j : Nat)) ∧ (nth (nth l (i : Nat)).helds (findH (nth l (i : Nat)).helds (nth (nth l (i : Nat)).roll.order (j : Nat)))).size = (relF (nth l (i : Nat)).roll.of (nth l (i : Nat)).roll.rels (nth l (i : Nat)).roll.act (nth l (i : Nat)).roll.order (nth (nth l (i : Nat)).roll.order (j : Nat))).size ∧ (nth (nth l (i : Nat)).helds (findH (nth l (i : Nat)).helds (nth (nth l (i : Nat)).roll.order (j : Nat)))).dig = (relF (nth l (i : Nat)).roll.of (nth l (i : Nat)).roll.rels (nth l (i : Nat)).roll.act (nth l (i : Nat)).roll.order (nth (nth l (i : Nat)).roll.order (j : Nat))).dig := Iff.rfl
        refine r_ifd (fun h3 => ?_) (fun h3 => ?_)
        · refine run ?_
          refine r_endF fun hp => ?_
          have := hq.1 (hp.2 i hi hup j hj)
          have hn := text_nn this.2.1
          grind
        · refine run ?_
          refine ⟨[0, 1], [], Gc.of, all_step hw (hq.2 ⟨hro, ?_⟩)⟩
          grind
      · refine run ?_
        exact ⟨[0], [], Gc.of, all_step hv fun _ => hw⟩
    · refine r_for 0 (fun _ => [(1, .ptr 0 [] 0), (3, .v (.int .i64 i)), (4, .ptr 1 [] 0), (5, .v (.int .i64 0))]) (fun _ => [⟨0, true, [.v (.int .i64 of), .sl false k0 l.length 19 (rowT memberC l), .sl false k1 mail.length 2 (rowT flightC mail)]⟩, ⟨0, true, memberK k0 (nth l (i : Nat))⟩]) (fun _ => True) [0, 1] [] trivial Gc.of (fun j hj _ => absurd hj (Nat.not_lt_zero _)) (fun _ => ?_)
      refine run ?_
      refine r_ifd (fun h2 => ?_) (fun h2 => ?_)
      · exact absurd h2.2 hup
      · refine run ?_
        exact ⟨[0], [], Gc.of, all_step hv fun a => absurd a hup⟩
  · refine run ?_
    exact r_endT ⟨h, hv⟩
instance (k0 k1 : Nat) (of : Int) (l : List MemberV) (mail : List FlightV) : Con Tryz.prog F.spec_JudgeTexts [.agg [.v (.int .i64 of), .sl false k0 l.length 19 (rowT memberC l), .sl false k1 mail.length 2 (rowT flightC mail)]] (bndF l mail) (.v (.bool (decide (fleetP of l mail ∧ textsP l)))) [] := ⟨fun h => spec_JudgeTexts k0 k1 of l mail h⟩

end Go.TL
