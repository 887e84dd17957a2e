/- A new held in a sorted list, in plain words: both sides make the same. No conditions. -/
import Derived.Test.YtneiifghegdfgaaJP8P9
namespace Go.TL
set_option linter.unusedSimpArgs false
open Go.Proofs Go.RowKit
attribute [local irreducible] wpOpsT wpT EndT Ex.seq Ex.block W

def srtH (l : List HeldV) : Prop := l.Pairwise fun a b => a.rel < b.rel
/-- A held in its place. -/
def insS (y : HeldV) : List HeldV → List HeldV
  | [] => [y]
  | x :: l => if x.rel < y.rel then x :: insS y l else if x.rel = y.rel then y :: l else y :: x :: l
theorem insS_mem {y z : HeldV} : ∀ {l : List HeldV}, z ∈ insS y l → z = y ∨ z ∈ l
  | [], h => .inl (by simpa [insS] using h)
  | x :: l, h => by
    unfold insS at h
    split at h
    · rcases List.mem_cons.1 h with h | h
      · exact .inr (h ▸ .head _)
      · exact (insS_mem h).imp_right fun k => .tail _ k
    split at h
    · rcases List.mem_cons.1 h with h | h
      · exact .inl h
      · exact .inr (.tail _ h)
    · exact List.mem_cons.1 h
theorem insS_self (y : HeldV) : ∀ l : List HeldV, y ∈ insS y l
  | [] => by simp [insS]
  | x :: l => by
    unfold insS
    split
    · exact .tail _ (insS_self y l)
    split
    · exact .head _
    · exact .head _
theorem insS_keep {y z : HeldV} : ∀ {l : List HeldV}, z ∈ l → z.rel ≠ y.rel → z ∈ insS y l
  | x :: l, h, hz => by
    unfold insS
    split
    · rcases List.mem_cons.1 h with h | h
      · exact h ▸ .head _
      · exact .tail _ (insS_keep h hz)
    split
    · rename_i e
      rcases List.mem_cons.1 h with h | h
      · exact absurd (h ▸ e) hz
      · exact .tail _ h
    · exact .tail _ h
theorem insS_srt {y : HeldV} : ∀ {l : List HeldV}, srtH l → srtH (insS y l)
  | [], _ => List.pairwise_singleton _ _
  | x :: l, h => by
    have h2 := List.pairwise_cons.1 h
    unfold insS
    split
    · rename_i hlt
      refine List.pairwise_cons.2 ⟨fun z hz => ?_, insS_srt h2.2⟩
      rcases insS_mem hz with rfl | hz
      · exact hlt
      · exact h2.1 z hz
    split
    · rename_i e
      refine List.pairwise_cons.2 ⟨fun z hz => ?_, h2.2⟩
      have := h2.1 z hz
      omega
    · rename_i h3 h4
      refine List.pairwise_cons.2 ⟨fun z hz => ?_, h⟩
      rcases List.mem_cons.1 hz with rfl | hz
      · omega
      · have := h2.1 z hz
        omega
theorem insS_len {y : HeldV} : ∀ {l : List HeldV}, srtH l → (insS y l).length = l.length + (if ∃ x ∈ l, x.rel = y.rel then 0 else 1)
  | [], _ => by simp [insS]
  | x :: l, h => by
    have h2 := List.pairwise_cons.1 h
    unfold insS
    split
    · rename_i hlt
      rw [List.length_cons, insS_len h2.2]
      have : (∃ z ∈ x :: l, z.rel = y.rel) ↔ ∃ z ∈ l, z.rel = y.rel := by
        constructor
        · rintro ⟨z, hz, e⟩
          rcases List.mem_cons.1 hz with rfl | hz
          · omega
          · exact ⟨z, hz, e⟩
        · rintro ⟨z, hz, e⟩
          exact ⟨z, .tail _ hz, e⟩
      rw [List.length_cons]
      by_cases hx : ∃ z ∈ l, z.rel = y.rel
      · rw [if_pos hx, if_pos (this.2 hx)]
      · rw [if_neg hx, if_neg (fun k => hx (this.1 k))]
    split
    · rename_i e
      rw [if_pos ⟨x, .head _, e⟩]; rfl
    · rename_i h3 h4
      rw [if_neg]
      · simp
      · rintro ⟨z, hz, e⟩
        rcases List.mem_cons.1 hz with rfl | hz
        · exact h4 e
        · have := h2.1 z hz
          omega

/-! ### The reference -/
theorem newSt_true {y : HeldV} : ∀ (l o : List HeldV), (∀ x ∈ l, y.rel < x.rel) → l.foldl (newStep y) (o, true) = (o ++ l, true)
  | [], o, _ => by rw [List.append_nil]; rfl
  | x :: l, o, h => by
    have hx := h x (.head _)
    rw [List.foldl_cons]
    have e : newStep y (o, true) x = (o ++ [x], true) := by
      unfold newStep
      rw [if_neg (by simp), if_neg (by omega)]
      rfl
    rw [e, newSt_true l _ fun z hz => h z (.tail _ hz), List.append_assoc]; rfl
theorem newSt_ins {y : HeldV} : ∀ (l o : List HeldV), srtH l → (if (l.foldl (newStep y) (o, false)).2 = true then (l.foldl (newStep y) (o, false)).1 else (l.foldl (newStep y) (o, false)).1 ++ [y]) = o ++ insS y l
  | [], o, _ => rfl
  | x :: l, o, h => by
    have h2 := List.pairwise_cons.1 h
    rw [List.foldl_cons]
    unfold insS
    by_cases h3 : x.rel < y.rel
    · have e : newStep y (o, false) x = (o ++ [x], false) := by
        unfold newStep
        rw [if_neg (by dsimp only; omega), if_neg (by omega), decide_eq_false (by omega)]; rfl
      rw [e, newSt_ins l (o ++ [x]) h2.2, if_pos h3, List.append_assoc]; rfl
    · have e : newStep y (o, false) x = (o ++ [y] ++ (if x.rel = y.rel then [] else [x]), true) := by
        unfold newStep
        rw [if_pos ⟨rfl, by omega⟩, decide_eq_true (by omega)]; rfl
      rw [e, newSt_true l _ fun z hz => by have := h2.1 z hz; omega, if_pos rfl, if_neg h3]
      by_cases h4 : x.rel = y.rel
      · rw [if_pos h4, if_pos h4]; simp
      · rw [if_neg h4, if_neg h4]; simp
theorem newL_ins {y : HeldV} {l : List HeldV} (h : srtH l) : newL y l = insS y l := newSt_ins l [] h

/-! ### The program -/
theorem keep_all {r : Int} : ∀ {l : List HeldV}, (∀ x ∈ l, x.rel ≠ r) → l.filter (keepH r) = l := fun {l} h => List.filter_eq_self.2 fun x hx => by unfold keepH; simpa using h x hx
theorem atN_0 {r : Int} : ∀ {l : List HeldV}, (∀ x ∈ l, ¬ x.rel < r) → atN r l = 0
  | [], _ => rfl
  | x :: l, h => by
    have := h x (.head _)
    unfold atN
    rw [List.findIdx_cons, decide_eq_false this]; rfl
theorem putL_ins {y : HeldV} : ∀ {l : List HeldV}, srtH l → putL y l = insS y l
  | [], _ => rfl
  | x :: l, h => by
    have h2 := List.pairwise_cons.1 h
    have ih := putL_ins (y := y) h2.2
    unfold insS
    unfold putL at ih ⊢
    by_cases h3 : x.rel < y.rel
    · have e1 : (x :: l).filter (keepH y.rel) = x :: l.filter (keepH y.rel) := by
        rw [List.filter_cons, if_pos]
        unfold keepH
        rw [decide_eq_false (by omega)]; rfl
      have e2 : atN y.rel (x :: l.filter (keepH y.rel)) = atN y.rel (l.filter (keepH y.rel)) + 1 := by
        unfold atN
        rw [List.findIdx_cons, decide_eq_true h3]; rfl
      rw [e1, e2, if_pos h3, List.take_succ_cons, List.drop_succ_cons, ← ih]; rfl
    · rw [if_neg h3]
      have hge : ∀ z ∈ x :: l, ¬ z.rel < y.rel := fun z hz => by
        rcases List.mem_cons.1 hz with rfl | hz
        · exact h3
        · have := h2.1 z hz; omega
      have e2 : atN y.rel ((x :: l).filter (keepH y.rel)) = 0 := atN_0 fun z hz => hge z (List.mem_filter.1 hz).1
      rw [e2, List.take_zero, List.drop_zero, List.nil_append]
      by_cases h4 : x.rel = y.rel
      · rw [if_pos h4, List.filter_cons, if_neg (by unfold keepH; rw [decide_eq_true h4]; simp), keep_all fun z hz => by have := h2.1 z hz; omega]
      · rw [if_neg h4, keep_all fun z hz => ?_]
        rcases List.mem_cons.1 hz with rfl | hz
        · exact h4
        · have := h2.1 z hz; omega

/-! ### What is right -/
theorem heldsP_iff {l : List HeldV} : heldsP l ↔ l.length ≤ 8 ∧ (∀ x ∈ l, (1 ≤ x.rel ∧ x.rel ≤ 1000) ∧ parcelP x.size x.dig x.parts) ∧ srtH l := by
  constructor
  · intro h
    have hlt : ∀ j : Nat, j < l.length → ∀ i : Nat, i < j → (nth l (i : Nat)).rel < (nth l (j : Nat)).rel := by
      intro j
      induction j with
      | zero => intro _ i hi; omega
      | succ j ih =>
        intro hj i hi
        have h1 := (h.2 (j + 1) hj).2.1
        rw [show (((j + 1 : Nat) : Int) - 1) = (j : Nat) by omega] at h1
        have h2 : (nth l (j : Nat)).rel < (nth l ((j + 1 : Nat) : Int)).rel := by omega
        rcases Nat.lt_or_ge i j with h3 | h3
        · have := ih (by omega) i h3
          omega
        · obtain rfl : i = j := by omega
          exact h2
    refine ⟨h.1, fun x hx => ?_, List.pairwise_iff_getElem.2 fun i j hi hj hij => ?_⟩
    · obtain ⟨i, hi, rfl⟩ := List.getElem_of_mem hx
      have := h.2 i hi
      unfold heldP at this
      rw [nth_nat hi] at this
      exact ⟨this.1, this.2.2⟩
    · have := hlt j hj i hij
      rwa [nth_nat hi, nth_nat hj] at this
  · rintro ⟨h1, h2, h3⟩
    refine ⟨h1, fun i hi => ?_⟩
    have hx := h2 (nth l (i : Nat)) (nth_mem hi)
    refine ⟨hx.1, ?_, hx.2⟩
    rintro ⟨k1, k2⟩
    have hp := List.pairwise_iff_getElem.1 h3 (i - 1) i (by omega) hi (by omega)
    rw [show ((i : Int) - 1) = ((i - 1 : Nat) : Int) by omega, nth_nat (show i - 1 < l.length by omega), nth_nat hi] at k2
    omega
theorem find_neg {l : List HeldV} {r : Int} : findH l r < 0 ↔ ¬ ∃ x ∈ l, x.rel = r := by
  constructor
  · rintro h ⟨x, hx, e⟩
    unfold findH at h
    split at h
    · omega
    · rename_i k
      exact k (List.findIdx_lt_length_of_exists ⟨x, hx, decide_eq_true e⟩)
  · intro h
    rw [find_no fun j hj e => h ⟨_, nth_mem hj, e⟩]
    decide
theorem new_ok {l : List HeldV} {r sz : Int} {d : ByteArray} (h : heldsP l) (hn : newOk sz d) : heldsP (insS (newV r sz d) l) ↔ (1 ≤ r ∧ r ≤ 1000) ∧ ¬ (findH l r < 0 ∧ (l.length : Int) = 8) := by
  obtain ⟨h1, h2, h3⟩ := heldsP_iff.1 h
  have hlen := insS_len (y := newV r sz d) h3
  have hyr : (newV r sz d).rel = r := rfl
  have hpar : parcelP (newV r sz d).size (newV r sz d).dig (newV r sz d).parts := by
    have hb : 0 ≤ partsN sz := by have := hn.1; unfold partsN; rw [if_pos hn.1]; omega
    have := (new_parcel sz d).2 hn
    rw [show max (partsN sz) 0 = partsN sz by omega] at this
    unfold newV newP
    rw [if_pos hn]
    exact this
  rw [find_neg, heldsP_iff]
  rw [hyr] at hlen
  constructor
  · rintro ⟨k1, k2, _⟩
    refine ⟨(k2 _ (insS_self _ _)).1, fun ⟨k3, k4⟩ => ?_⟩
    rw [if_neg k3] at hlen
    omega
  · rintro ⟨k1, k2⟩
    refine ⟨?_, fun x hx => ?_, insS_srt h3⟩
    · by_cases k3 : ∃ x ∈ l, x.rel = r
      · rw [if_pos k3] at hlen; omega
      · rw [if_neg k3] at hlen
        have : ¬ (l.length : Int) = 8 := fun e => k2 ⟨k3, e⟩
        omega
    · rcases insS_mem hx with rfl | hx
      · exact ⟨k1, hpar⟩
      · exact h2 x hx
/-- What the reference makes is what the program makes. -/
theorem newH_eq {l : List HeldV} {r sz : Int} {d : ByteArray} (h : heldsP l) (hn : newOk sz d) : newH l r sz d = (if heldsP (putL (newV r sz d) l) then putL (newV r sz d) l else l, decide (heldsP (putL (newV r sz d) l))) := by
  have hs := (heldsP_iff.1 h).2.2
  rw [putL_ins hs]
  have hk := new_ok (r := r) h hn
  unfold newH
  rw [if_neg (fun hh => hh h), newL_ins hs]
  by_cases hp : heldsP (insS (newV r sz d) l)
  · have := hk.1 hp
    rw [if_neg (by rintro (k | k | k); exact k hn; exact k this.1; exact this.2 k), if_pos hp, decide_eq_true hp]
  · rw [if_pos, if_neg hp, decide_eq_false hp]
    by_cases h1 : 1 ≤ r ∧ r ≤ 1000
    · exact .inr (.inr (Decidable.not_not.1 fun k => hp (hk.2 ⟨h1, k⟩)))
    · exact .inr (.inl h1)
theorem newH_no {l : List HeldV} {r sz : Int} {d : ByteArray} (h : heldsP l) (hn : ¬ newOk sz d) : newH l r sz d = (l, false) := by
  unfold newH
  rw [if_neg (fun hh => hh h), if_pos (.inl hn)]
theorem newH_bad {l : List HeldV} {r sz : Int} {d : ByteArray} (h : ¬ heldsP l) : newH l r sz d = ([], false) := if_pos h

/-! ### Bounds -/
theorem bnd_newV (r sz : Int) (d : ByteArray) : bndH (newV r sz d) := by
  have := partsN_b sz
  unfold bndH bndP newV newP
  split
  · rename_i h
    have hd := h.2
    refine ⟨by dsimp only; omega, ⟨by dsimp only; rw [List.length_replicate]; omega, fun s hs => ?_⟩⟩
    rw [List.eq_of_mem_replicate hs]
    decide
  · exact ⟨by show 0 ≤ 140737488351232; decide, ⟨by show 0 ≤ 8796093022208; decide, fun s hs => by cases hs⟩⟩
theorem bnd_put {y : HeldV} {l : List HeldV} (hb : bndHS l) (hl : l.length ≤ 1000) (hy : bndH y) : bndHS (putL y l) := by
  have := putL_length y l
  have h2 := List.length_filter_le (keepH y.rel) l
  refine ⟨by omega, fun x hx => ?_⟩
  rcases putL_mem hx with rfl | hx
  · exact hy
  · exact hb.2 x hx
theorem cost_ins (y : HeldV) : ∀ l : List HeldV, costHS (insS y l) ≤ costHS l + costH y
  | [] => by simp [insS, costHS, sumI]
  | x :: l => by
    have ih := cost_ins y l
    have h1 := costH_nn x
    have h2 := costH_nn y
    unfold insS
    split
    · simp only [costHS, sumI, List.map_cons, List.sum_cons] at ih ⊢; omega
    split
    · simp only [costHS, sumI, List.map_cons, List.sum_cons] at ih ⊢; omega
    · simp only [costHS, sumI, List.map_cons, List.sum_cons] at ih ⊢; omega
theorem cost_new (l : List HeldV) (r sz : Int) (d : ByteArray) : costHS (newH l r sz d).1 ≤ costHS l + 100 := by
  have hy : costH (newV r sz d) ≤ 100 := by
    have := partsN_b sz
    unfold costH newV newP
    split
    · dsimp only; rw [List.length_replicate]; omega
    · show (3 : Int) + ((0 : Nat) : Int) ≤ 100; decide
  have hn := sum_nn costH_nn l
  have hcl : costHS l = sumI costH l := rfl
  unfold newH
  split
  · show (0 : Int) ≤ _; omega
  rename_i h
  split
  · show costHS l ≤ _; omega
  · rw [newL_ins (heldsP_iff.1 (Decidable.not_not.1 h)).2.2]
    have := cost_ins (newV r sz d) l
    show costHS (insS _ l) ≤ _
    omega
theorem bnd_new {l : List HeldV} {r sz : Int} {d : ByteArray} (hb : bndHS l) : bndHS (newH l r sz d).1 := by
  unfold newH
  split
  · exact ⟨by simp, fun x hx => by cases hx⟩
  rename_i h
  split
  · exact hb
  · have h := Decidable.not_not.1 h
    have h8 := h.1
    rw [newL_ins (heldsP_iff.1 h).2.2, ← putL_ins (heldsP_iff.1 h).2.2]
    exact bnd_put hb (by omega) (bnd_newV r sz d)
theorem impl_HeldNewR (l : List HeldV) (r sz : Int) (d : ByteArray) (hb : bndHS l) (hpre : totHS l ≤ 1048576) (hok : heldsP l) : CallsT Try.prog [] F.impl_HeldNew [.sl false 1 l.length 4 (rowT heldC l), .v (.int .i64 r), .v (.int .i64 sz), .v (.string d)] (.tup [.ref 0 [] 0 (newH l r sz d).1.length, .v (.bool (newH l r sz d).2)]) [⟨4, true, rowT heldO (newH l r sz d).1⟩] := by
  by_cases hn : newOk sz d
  · rw [newH_eq hok hn]
    exact impl_HeldNewO l r sz d hb hpre hok hn (bnd_put hb (by have := hok.1; omega) (bnd_newV r sz d))
  · rw [newH_no hok hn]
    exact impl_HeldNewN l r sz d hb hpre hok hn

end Go.TL
