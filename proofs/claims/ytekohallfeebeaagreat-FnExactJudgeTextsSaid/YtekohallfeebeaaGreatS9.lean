/- Parcels that are whole, and held texts, both sides. No conditions but those that are written. -/
import Derived.Test.YtekohallfeebeaaGreatJS5S8
import Derived.Test.YtekohallfeebeaaGreatC2
import Derived.Test.YtekohallfeebeaaGreatH1
import Derived.Test.YtekohallfeebeaaGreatF0
namespace Go.TL
open Go.Proofs Go.RowKit
attribute [local irreducible] wpOpsT wpT EndT Ex.seq Ex.block W

theorem str_bytes (s : ByteArray) : Bytes (strL s) := bytesP_str s
def catL (l : List ByteArray) : List UInt8 := (l.map (·.data.toList)).flatten
def catB (l : List ByteArray) : ByteArray := ⟨(catL l).toArray⟩
theorem catB_size (l : List ByteArray) : (catB l).size = (catL l).length := by simp [catB, ByteArray.size]
theorem catL_app (a b : List ByteArray) : catL (a ++ b) = catL a ++ catL b := by simp [catL]
theorem catB_0 : catB [] = ⟨#[]⟩ := rfl
theorem catB_step {l : List ByteArray} {i : Nat} (h : i < l.length) : catB (l.take i) ++ nth l (i : Nat) = catB (l.take (i + 1)) := by
  rw [take_nth h]
  apply ByteArray.ext
  rw [ByteArray.data_append]
  unfold catB
  rw [catL_app]
  simp [catL]
theorem cat_take (l : List ByteArray) (i : Nat) : (catL (l.take i)).length ≤ (catL l).length := by
  have := congrArg catL (List.take_append_drop i l)
  rw [catL_app] at this
  have h2 := congrArg List.length this
  rw [List.length_append] at h2
  omega
theorem cat_at {l : List ByteArray} {i : Nat} (h : i < l.length) : (catL (l.take i)).length + (nth l (i : Nat)).size ≤ (catL l).length := by
  have h1 := cat_take l (i + 1)
  rw [take_nth h, catL_app, List.length_append] at h1
  have h2 : (catL [nth l (i : Nat)]).length = (nth l (i : Nat)).size := by simp [catL]
  omega
theorem join_cat (l : List ByteArray) : Lib.join (l.map (·.data.toList)) [] = catL l := by
  cases l with
  | nil => rfl
  | cons x l => rw [List.map_cons, Lib.join_cons, catL, List.map_cons, List.flatten_cons, Lib.joinTail]; congr 2; exact List.map_id _
theorem joinB_cat (l : List ByteArray) : joinB l ⟨#[]⟩ = catB l := by
  unfold joinB catB
  rw [← join_cat]
theorem joinLen_cat (l : List ByteArray) : joinLen l ⟨#[]⟩ = (catL l).length := by
  unfold joinLen
  rw [← join_cat]
theorem cat_tot (l : List ByteArray) : ((catL l).length : Int) ≤ totS l := by
  have : ∀ l : List ByteArray, ((catL l).length : Int) = sumI szS l := by
    intro l
    induction l with
    | nil => rfl
    | cons x l ih =>
      rw [show catL (x :: l) = catL [x] ++ catL l from (catL_app [x] l), List.length_append, show x :: l = [x] ++ l from rfl, sum_app]
      rw [Int.natCast_add, ih]
      simp [catL, sumI, szS]
  unfold totS
  rw [this]; omega

/-- What a parcel's text is, and what it lacks of being whole. -/
def wholeP (sz : Int) (d : ByteArray) (l : List ByteArray) : ByteArray × Int :=
  if ¬ parcelP sz d l then (⟨#[]⟩, 1) else if ¬ (∀ i, i < l.length → ¬ nth l (i : Nat) = ⟨#[]⟩) then (⟨#[]⟩, 2) else if ¬ strOfT (shaL (strL (catB l))) = d then (⟨#[]⟩, 3) else (catB l, 0)
def bndW (l : List ByteArray) : Prop := l.length ≤ 8796093022208 ∧ (catL l).length ≤ 1048576

set_option maxHeartbeats 4000000 in
theorem spec_ParcelWhole (k : Nat) (sz : Int) (d : ByteArray) (l : List ByteArray) (hpre : bndW l) : CallsT Tryz.prog [] F.spec_ParcelWhole [.agg [.v (.int .i64 sz), .v (.string d), .sl false k l.length 1 (rowT strC l)]] (.tup [.v (.string ((wholeP sz d l).1)), .v (.int .i64 ((wholeP sz d l).2))]) [] := by
  refine fnT C.spec_ParcelWhole ?_
  obtain ⟨hl, hc⟩ := hpre
  refine run ?_
  refine r_ifd (fun h => ?_) (fun h => ?_)
  · rw [wholeP, if_pos h]
    refine run ?_
    exact r_end [] []
  refine run ?_
  refine r_for l.length (fun i => [(1, .ptr 0 [] 0), (4, .v (.string (catB (l.take i)))), (5, .v (.int .i64 i))]) (fun _ => [⟨0, true, [.v (.int .i64 sz), .v (.string d), .sl false k l.length 1 (rowT strC l)]⟩]) (fun i => ∀ j, j < i → ¬ nth l (j : Nat) = ⟨#[]⟩) [0] [] all_0 Gc.of (fun i hi hv => ?_) (fun hv => ?_)
  · have h1 := cat_at hi
    have h2 := catB_size (l.take i)
    refine run ?_
    refine r_ifd (fun h3 => ?_) (fun h3 => ?_)
    · rw [wholeP, if_neg h, if_pos (fun hh => hh i hi h3)]
      refine run ?_
      exact r_end [] []
    · refine run ?_
      rw [catB_step hi]
      exact ⟨[0], [], Gc.of, all_step hv h3⟩
  · rw [List.take_length]
    have h1 := catB_size l
    have h2 := strL_length (catB l)
    have h3 := str_bytes (catB l)
    refine run ?_
    refine r_ifd (fun h4 => ?_) (fun h4 => ?_)
    · rw [wholeP, if_neg h, if_neg (fun hh => hh hv), if_pos h4]
      refine run ?_
      exact r_end [] []
    · rw [wholeP, if_neg h, if_neg (fun hh => hh hv), if_neg h4]
      refine run ?_
      exact r_end [] []
instance (k : Nat) (sz : Int) (d : ByteArray) (l : List ByteArray) : Con Tryz.prog F.spec_ParcelWhole [.agg [.v (.int .i64 sz), .v (.string d), .sl false k l.length 1 (rowT strC l)]] (bndW l) (.tup [.v (.string ((wholeP sz d l).1)), .v (.int .i64 ((wholeP sz d l).2))]) [] := ⟨fun h => spec_ParcelWhole k sz d l h⟩

set_option maxHeartbeats 4000000 in
theorem impl_ParcelWhole (k : Nat) (sz : Int) (d : ByteArray) (l : List ByteArray) (hpre : bndW l) : CallsT Tryz.prog [] F.impl_ParcelWhole [.agg [.v (.int .i64 sz), .v (.string d), .sl false k l.length 1 (rowT strC l)]] (.tup [.v (.string ((wholeP sz d l).1)), .v (.int .i64 ((wholeP sz d l).2))]) [] := by
  refine fnT C.impl_ParcelWhole ?_
  obtain ⟨hl, hc⟩ := hpre
  have hj := strings_Join 1 l ⟨#[]⟩ (by rw [joinLen_cat]; omega) (by omega)
  rw [joinB_cat] at hj
  have h1 := catB_size l
  have h2 := strL_length (catB l)
  have h3 := str_bytes (catB l)
  refine run ?_
  refine r_callp true hj ?_
  refine run ?_
  refine r_ifd (fun h => ?_) (fun h => ?_)
  · rw [wholeP, if_pos h]
    refine run ?_
    exact r_end [] []
  have hp := Decidable.not_not.1 h
  have hla := lack_none (l := l) (n := l.length)
  rw [show lackL l l.length = lacksP sz d l from (if_pos hp).symm] at hla
  refine run ?_
  refine r_ifd (fun h5 => ?_) (fun h5 => ?_)
  · rw [wholeP, if_neg h, if_pos (fun hh => by have := hla.2 hh; omega)]
    refine run ?_
    exact r_end [] []
  have hv := hla.1 (by omega)
  refine run ?_
  refine r_ifd (fun h4 => ?_) (fun h4 => ?_)
  · rw [wholeP, if_neg h, if_neg (fun hh => hh hv), if_pos h4]
    refine run ?_
    exact r_end [] []
  · rw [wholeP, if_neg h, if_neg (fun hh => hh hv), if_neg h4]
    refine run ?_
    exact r_end [] []
instance (k : Nat) (sz : Int) (d : ByteArray) (l : List ByteArray) : Con Tryz.prog F.impl_ParcelWhole [.agg [.v (.int .i64 sz), .v (.string d), .sl false k l.length 1 (rowT strC l)]] (bndW l) (.tup [.v (.string ((wholeP sz d l).1)), .v (.int .i64 ((wholeP sz d l).2))]) [] := ⟨fun h => impl_ParcelWhole k sz d l h⟩

/-- What is held as a text under a release. -/
def textS (l : List HeldV) (r : Int) : ByteArray := if findH l r < 0 ∨ ¬ heldsP l then ⟨#[]⟩ else (wholeP (nth l (findH l r)).size (nth l (findH l r)).dig (nth l (findH l r)).parts).1
def textOk (l : List HeldV) (r : Int) : Prop := ¬ (findH l r < 0 ∨ ¬ heldsP l) ∧ (wholeP (nth l (findH l r)).size (nth l (findH l r)).dig (nth l (findH l r)).parts).2 = 0
instance (l : List HeldV) (r : Int) : Decidable (textOk l r) := inferInstanceAs (Decidable (_ ∧ _))
theorem held_bw {l : List HeldV} (h : totHS l ≤ 1048576) {x : Int} (h0 : 0 ≤ x) (hi : x < l.length) : bndW (nth l x).parts := by
  have h1 : totH (nth l x) ≤ sumI totH l := by
    have e : x = (x.toNat : Int) := by omega
    rw [e]
    have h1 := sum_take totH (l := l) (i := x.toNat) (by omega)
    have h2 := sum_le totH_nn l (x.toNat + 1)
    have h3 := sum_nn totH_nn (l.take x.toNat)
    omega
  have h2 := cat_tot (nth l x).parts
  have h3 : totH (nth l x) = (nth l x).dig.size + totS (nth l x).parts := rfl
  have h4 := sum_nn szS_nn (nth l x).parts
  unfold totHS at h
  have h5 : totS (nth l x).parts = (nth l x).parts.length + sumI szS (nth l x).parts := rfl
  exact ⟨by omega, by omega⟩

set_option maxHeartbeats 4000000 in
theorem spec_HeldText (k : Nat) (l : List HeldV) (r : Int) (hpre : bndHS l ∧ totHS l ≤ 1048576) : CallsT Tryz.prog [] F.spec_HeldText [.sl false k l.length 4 (rowT heldC l), .v (.int .i64 r)] (.tup [.v (.string (textS l r)), .v (.bool (decide (textOk l r)))]) [] := by
  refine fnT C.spec_HeldText ?_
  obtain ⟨hb, ht⟩ := hpre
  have hb1 := hb.1
  have hf := find_b l r
  refine run ?_
  refine r_ifd (fun h => ?_) (fun h => ?_)
  · rw [textS, if_pos h, decide_eq_false (fun hp : textOk l r => hp.1 h)]
    refine run ?_
    exact r_end [] []
  have hw := held_bw ht (x := findH l r) (by omega) hf.2
  have hbw : bndW (nth l (findH l r)).parts := hw
  rw [textS, if_neg h, show decide (textOk l r) = decide ((wholeP (nth l (findH l r)).size (nth l (findH l r)).dig (nth l (findH l r)).parts).2 = 0) from decide_eq_decide.2 ⟨fun hp => hp.2, fun hp => ⟨h, hp⟩⟩]
  refine run ?_
  exact r_end [] []
instance (k : Nat) (l : List HeldV) (r : Int) : Con Tryz.prog F.spec_HeldText [.sl false k l.length 4 (rowT heldC l), .v (.int .i64 r)] (bndHS l ∧ totHS l ≤ 1048576) (.tup [.v (.string (textS l r)), .v (.bool (decide (textOk l r)))]) [] := ⟨fun h => spec_HeldText k l r h⟩

set_option maxHeartbeats 4000000 in
theorem impl_HeldText (k : Nat) (l : List HeldV) (r : Int) (hpre : bndHS l ∧ totHS l ≤ 1048576) : CallsT Tryz.prog [] F.impl_HeldText [.sl false k l.length 4 (rowT heldC l), .v (.int .i64 r)] (.tup [.v (.string (textS l r)), .v (.bool (decide (textOk l r)))]) [] := by
  refine fnT C.impl_HeldText ?_
  obtain ⟨hb, ht⟩ := hpre
  have hb1 := hb.1
  have hf := find_b l r
  refine run ?_
  refine r_ifd (fun h => ?_) (fun h => ?_)
  · rw [textS, if_pos h, decide_eq_false (fun hp : textOk l r => hp.1 h)]
    refine run ?_
    exact r_end [] []
  have hw := held_bw ht (x := findH l r) (by omega) hf.2
  have hbw : bndW (nth l (findH l r)).parts := hw
  rw [textS, if_neg h, show decide (textOk l r) = decide ((wholeP (nth l (findH l r)).size (nth l (findH l r)).dig (nth l (findH l r)).parts).2 = 0) from decide_eq_decide.2 ⟨fun hp => hp.2, fun hp => ⟨h, hp⟩⟩]
  refine run ?_
  exact r_end [] []
instance (k : Nat) (l : List HeldV) (r : Int) : Con Tryz.prog F.impl_HeldText [.sl false k l.length 4 (rowT heldC l), .v (.int .i64 r)] (bndHS l ∧ totHS l ≤ 1048576) (.tup [.v (.string (textS l r)), .v (.bool (decide (textOk l r)))]) [] := ⟨fun h => impl_HeldText k l r h⟩

end Go.TL
