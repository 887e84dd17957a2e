/- Helds are loaded, both sides. No conditions but those that are written. -/
import Derived.Test.YtneiifghegdfgaaJJ4J6
import Derived.Test.YtneiifghegdfgaaJJ7J9
namespace Go.TL
set_option linter.unusedSimpArgs false
open Go.Proofs Go.RowKit
attribute [local irreducible] wpOpsT wpT EndT Ex.seq Ex.block W

theorem sum_bndJ {α : Type} {f : α → Int} {K : Int} : ∀ l : List α, (∀ x ∈ l, f x ≤ K) → sumI f l ≤ K * l.length
  | [], _ => by simp [sumI]
  | x :: l, h => by
    have h1 := h x (.head _)
    have h2 := sum_bndJ l fun y hy => h y (.tail _ hy)
    rw [show sumI f (x :: l) = f x + sumI f l by simp [sumI], List.length_cons, Int.natCast_add, Int.mul_add]
    omega
/-- What is right is small. -/
theorem held_small {l : List HeldV} (h : heldsP l) : bndHS l ∧ totHS l ≤ 1048576 := by
  obtain ⟨h1, h2, _⟩ := heldsP_iff.1 h
  have key : ∀ x ∈ l, bndH x ∧ totH x ≤ 3000 := fun x hx => by
    obtain ⟨_, k1, k2, k3, k4⟩ := h2 x hx
    have hn := partsN_b x.size
    have hp : ∀ t ∈ x.parts, t.size ≤ 16 := fun t ht => by
      obtain ⟨i, hi, rfl⟩ := List.getElem_of_mem ht
      have := k4 i hi
      unfold partP at this
      rw [nth_nat hi] at this
      rcases this with e | e
      · rw [e]; decide
      · omega
    have hs := sum_bndJ (f := szS) (K := 16) x.parts fun t ht => by have := hp t ht; unfold szS; omega
    refine ⟨⟨by omega, by omega, fun t ht => by have := hp t ht; omega⟩, ?_⟩
    unfold totH totP totS
    omega
  have hs := sum_bndJ (f := totH) (K := 3000) l fun x hx => (key x hx).2
  exact ⟨⟨by omega, fun x hx => (key x hx).1⟩, by unfold totHS; omega⟩

theorem parcel_set {sz : Int} {d : ByteArray} {l : List ByteArray} {i : Int} {s : ByteArray} (h : parcelP sz d l) (hi : 0 ≤ i) (hs : (s.size : Int) = min 16 (sz - i * 16)) : parcelP sz d (l.set i.toNat s) := by
  obtain ⟨h1, h2, h3, h4⟩ := h
  refine ⟨h1, h2, by rw [List.length_set]; exact h3, fun j hj => ?_⟩
  rw [List.length_set] at hj
  have hj2 : j < (l.set i.toNat s).length := by rw [List.length_set]; exact hj
  have := h4 j hj
  unfold partP at this ⊢
  rw [nth_nat hj2, List.getElem_set]
  rw [nth_nat hj] at this
  split
  · rename_i e
    refine .inr ?_
    rw [← e, Int.toNat_of_nonneg hi]
    exact hs
  · exact this
theorem set_same {l : List HeldV} {n : Nat} {x : HeldV} (h : heldsP l) (hn : n < l.length) (e : x.rel = (nth l (n : Nat)).rel) (hp : parcelP x.size x.dig x.parts) : heldsP (l.set n x) := by
  obtain ⟨h1, h2, h3⟩ := heldsP_iff.1 h
  refine heldsP_iff.2 ⟨by rw [List.length_set]; exact h1, fun y hy => ?_, ?_⟩
  · rcases List.mem_or_eq_of_mem_set hy with hy | rfl
    · exact h2 y hy
    · exact ⟨by rw [e]; exact (h2 _ (nth_mem hn)).1, hp⟩
  · unfold srtH at h3 ⊢
    rw [← List.pairwise_map (f := HeldV.rel) (R := fun a b : Int => a < b)] at h3 ⊢
    rw [List.map_set, e, nth_nat hn, show l[n].rel = (l.map HeldV.rel)[n]'(by rw [List.length_map]; exact hn) from (List.getElem_map _).symm, List.set_getElem_self]
    exact h3
theorem putH_ok {l : List HeldV} {r i : Int} {s : ByteArray} (h : heldsP l) : heldsP (putH l r i s).1 := by
  have hfb := find_b l r
  unfold putH
  split
  · exact h
  rename_i h1
  split
  · rename_i h2
    have hn : (findH l r).toNat < l.length := by omega
    have e : nth l (findH l r) = nth l (((findH l r).toNat : Nat) : Int) := by rw [Int.toNat_of_nonneg (by omega)]
    unfold putP at h2 ⊢
    split at h2
    · rename_i hc
      split at h2
      · exact absurd (show (2 : Int) = 0 from h2) (by decide)
      · rename_i n1
        split at h2
        · exact absurd (show (3 : Int) = 0 from h2) (by decide)
        · rename_i n2
          rw [if_pos hc, if_neg n1, if_neg n2]
          exact set_same h hn (by dsimp only; rw [e]) (parcel_set hc.1 hc.2.1.1 hc.2.2)
    · exact absurd h2 (by decide)
  · exact h
theorem newH_ok {l : List HeldV} {r sz : Int} {d : ByteArray} (h : heldsP l) (hn : (newH l r sz d).2 = true) : heldsP (newH l r sz d).1 := by
  by_cases hk : newOk sz d
  · rw [newH_eq h hk] at hn ⊢
    have hn := of_decide_eq_true hn
    rw [if_pos hn]
    exact hn
  · rw [newH_no h hk] at hn
    cases hn
theorem piece_ok {l l2 : List HeldV} {s : ByteArray} (h : heldsP l) (hv : pieceV l s = some l2) : heldsP l2 := by
  unfold pieceV at hv
  split at hv
  · split at hv
    · split at hv
      · split at hv
        · rename_i hn
          cases hv
          exact newH_ok h hn
        · cases hv
      · cases hv
    · split at hv
      · split at hv
        · cases hv
          exact putH_ok h
        · cases hv
      · cases hv
  · cases hv

/-- What texts make of a list; what is refused ends it. -/
def hlL : List HeldV → List ByteArray → List HeldV
  | l, [] => l
  | l, s :: ts => match pieceV l s with
    | some l2 => hlL l2 ts
    | none => l
theorem hlL_ok : ∀ (ts : List ByteArray) {l : List HeldV}, heldsP l → heldsP (hlL l ts)
  | [], _, h => h
  | s :: ts, l, h => by
    unfold hlL
    cases hv : pieceV l s with
    | none => exact h
    | some l2 => exact hlL_ok ts (piece_ok h hv)
theorem heldsP_nil : heldsP [] := ⟨by decide, fun i hi => absurd hi (Nat.not_lt_zero _)⟩
theorem hlL_drop {ts : List ByteArray} {i : Nat} (hi : i < ts.length) (l : List HeldV) : hlL l (ts.drop i) = match pieceV l (nth ts (i : Nat)) with
    | some l2 => hlL l2 (ts.drop (i + 1))
    | none => l := by
  rw [List.drop_eq_getElem_cons hi, hlL, nth_nat hi]

/-- What is loaded of a disk. -/
def hload (room : Int) (l : List FileV) : List HeldV := hlL [] (jdL room l 1)

theorem spec_HeldLoad (k : Nat) (room : Int) (l : List FileV) (hb : bndFileS l) (ht : totFileS l ≤ 1048576) : CallsT Try.prog [] F.spec_HeldLoad [.agg [.v (.int .i64 room), .sl false k l.length 3 (rowT fileC l)]] (.ref 0 [] 0 (hload room l).length) [⟨4, true, rowT heldO (hload room l)⟩] := by
  have hsz := jdL_size (room := room) (l := l) (n := 1)
  have hln := jdL_len room l 1
  refine fnT C.spec_HeldLoad ?_
  refine run ?_
  unfold hload
  generalize jdL room l 1 = ts at *
  refine r_loop_of (σ := List HeldV × Nat) (fun t => [(3, .ref 0 [] 0 t.1.length), (4, .sl false 0 ts.length 1 (rowT strC ts)), (6, .v (.int .i64 ((t.2 : Nat))))]) (fun t => [⟨4, true, rowT heldO t.1⟩]) (fun t => hlL t.1 (ts.drop t.2) = hlL [] ts ∧ t.2 ≤ ts.length ∧ heldsP t.1) (fun t => ts.length - t.2) ([], 0) [1] [] ?_ Gc.of ?_
  · exact ⟨rfl, Nat.zero_le _, heldsP_nil⟩
  rintro ⟨o, i⟩ ⟨h1, h2, h3⟩
  dsimp only at h1 h2 h3 ⊢
  obtain ⟨hbo, hto⟩ := held_small h3
  refine run ?_
  refine r_ifd (fun hc => ?_) (fun hc => ?_)
  · have hi : i < ts.length := by omega
    have hs := hsz _ (nth_mem hi)
    rw [hlL_drop hi] at h1
    cases hv : pieceV o (nth ts (i : Nat)) with
    | some l2 =>
      rw [hv] at h1
      have hp := spec_PieceS o l2 (nth ts (i : Nat)) hbo hto h3 (by omega) hv
      refine run ?_
      refine r_callp true hp ?_
      refine run ?_
      exact ⟨(l2, i + 1), [1], [], Gc.of, by dsimp only; omega, h1, hi, piece_ok h3 hv⟩
    | none =>
      rw [hv] at h1
      have hp := spec_PieceN o (nth ts (i : Nat)) hbo hto h3 (by omega) hv
      rw [← h1]
      refine run ?_
      refine r_callp true hp ?_
      refine run ?_
      exact r_end [0] []
  · rw [show i = ts.length by omega, List.drop_length] at h1
    rw [← h1]
    refine run ?_
    exact r_end [0] []

theorem impl_HeldLoad (k : Nat) (room : Int) (l : List FileV) (hb : bndFileS l) (ht : totFileS l ≤ 1048576) : CallsT Try.prog [] F.impl_HeldLoad [.agg [.v (.int .i64 room), .sl false k l.length 3 (rowT fileC l)]] (.ref 0 [] 0 (hload room l).length) [⟨4, true, rowT heldO (hload room l)⟩] := by
  have hsz := jdL_size (room := room) (l := l) (n := 1)
  have hln := jdL_len room l 1
  refine fnT C.impl_HeldLoad ?_
  refine run ?_
  unfold hload
  generalize jdL room l 1 = ts at *
  refine r_loop_of (σ := List HeldV × Nat) (fun t => [(3, .ref 0 [] 0 t.1.length), (16, .sl false 0 ts.length 1 (rowT strC ts)), (17, .v (.int .i64 ts.length)), (18, .v (.int .i64 ((t.2 : Nat))))]) (fun t => [⟨4, true, rowT heldO t.1⟩]) (fun t => hlL t.1 (ts.drop t.2) = hlL [] ts ∧ t.2 ≤ ts.length ∧ heldsP t.1) (fun t => ts.length - t.2) ([], 0) [1] [] ?_ Gc.of ?_
  · exact ⟨rfl, Nat.zero_le _, heldsP_nil⟩
  rintro ⟨o, i⟩ ⟨h1, h2, h3⟩
  dsimp only at h1 h2 h3 ⊢
  obtain ⟨hbo, hto⟩ := held_small h3
  refine run ?_
  refine r_ifd (fun hc => ?_) (fun hc => ?_)
  · have hi : i < ts.length := by omega
    have hs := hsz _ (nth_mem hi)
    rw [hlL_drop hi] at h1
    cases hv : pieceV o (nth ts (i : Nat)) with
    | some l2 =>
      rw [hv] at h1
      have hp := impl_heldByS o l2 (nth ts (i : Nat)) hbo hto h3 (by omega) hv
      refine run ?_
      refine r_callp true hp ?_
      refine run ?_
      exact ⟨(l2, i + 1), [1], [], Gc.of, by dsimp only; omega, h1, hi, piece_ok h3 hv⟩
    | none =>
      rw [hv] at h1
      have hp := impl_heldByN o (nth ts (i : Nat)) hbo hto h3 (by omega) hv
      rw [← h1]
      refine run ?_
      refine r_callp true hp ?_
      refine run ?_
      exact r_end [0] []
  · rw [show i = ts.length by omega, List.drop_length] at h1
    rw [← h1]
    refine run ?_
    exact r_end [0] []

end Go.TL
