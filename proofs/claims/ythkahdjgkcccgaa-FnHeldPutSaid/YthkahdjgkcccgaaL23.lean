/- The law of a part that is put, in plain words: no other release is turned, and the part is there. No conditions. -/
import Derived.Test.YthkahdjgkcccgaaG17
namespace Go.TL
set_option linter.unusedSimpArgs false
open Go.Proofs Go.RowKit
attribute [local irreducible] wpOpsT wpT EndT Ex.seq Ex.block W

theorem nth_setH {α : Type} [Inhabited α] {l : List α} {i j : Nat} {x : α} (hj : j < l.length) : nth (l.set i x) (j : Nat) = if i = j then x else nth l (j : Nat) := by
  rw [nth_nat (by rw [List.length_set]; exact hj), nth_nat hj, List.getElem_set]
theorem find_ok {l : List HeldV} {r : Int} {n : Nat} (h : findH l r = n) : n < l.length ∧ (nth l (n : Nat)).rel = r := by
  unfold findH at h
  split at h
  · rename_i hlt
    have e : l.findIdx (fun h => decide (h.rel = r)) = n := by omega
    have h2 := List.findIdx_getElem (w := hlt)
    refine ⟨by omega, ?_⟩
    rw [nth_nat (by omega)]
    simp only [decide_eq_true_eq] at h2
    simp only [e] at h2
    exact h2
  · omega
theorem held_lt {l : List HeldV} (h : heldsP l) : ∀ d i, i + d + 1 < l.length → (nth l (i : Nat)).rel < (nth l ((i + d + 1 : Nat) : Int)).rel := by
  have step : ∀ i, i + 1 < l.length → (nth l (i : Nat)).rel < (nth l ((i + 1 : Nat) : Int)).rel := fun i hi => by
    have := (h.2 (i + 1) hi).2.1
    rw [show (((i + 1 : Nat) : Int) - 1) = (i : Nat) by omega] at this
    omega
  intro d
  induction d with
  | zero => intro i hi; exact step i hi
  | succ d ih =>
    intro i hi
    have h1 := ih i (by omega)
    have h2 := step (i + d + 1) hi
    rw [show i + (d + 1) + 1 = i + d + 1 + 1 by omega]
    omega
theorem held_one {l : List HeldV} (h : heldsP l) {i j : Nat} (hi : i < l.length) (hj : j < l.length) (e : (nth l (i : Nat)).rel = (nth l (j : Nat)).rel) : i = j := by
  rcases Nat.lt_trichotomy i j with hlt | rfl | hgt
  · have := held_lt h (j - i - 1) i (by omega)
    rw [show i + (j - i - 1) + 1 = j by omega] at this
    omega
  · rfl
  · have := held_lt h (i - j - 1) j (by omega)
    rw [show j + (i - j - 1) + 1 = i by omega] at this
    omega
theorem putP_at {sz : Int} {d : ByteArray} {l : List ByteArray} {i : Int} {s : ByteArray} (h : (putP sz d l i s).2 = 0) : parcelP sz d l ∧ (0 ≤ i ∧ i ≤ (l.length : Int) - 1) ∧ (s.size : Int) = min 16 (sz - i * 16) := by
  unfold putP at h
  split at h
  · rename_i h1; exact h1
  · cases h
theorem put_parcel {sz : Int} {d : ByteArray} {l : List ByteArray} {i : Int} {s : ByteArray} (h : parcelP sz d l) (hi : 0 ≤ i ∧ i ≤ (l.length : Int) - 1) (hs : (s.size : Int) = min 16 (sz - i * 16)) : parcelP sz d (l.set i.toNat s) := by
  refine ⟨h.1, h.2.1, by rw [List.length_set]; exact h.2.2.1, fun j hj => ?_⟩
  rw [List.length_set] at hj
  have hj0 := h.2.2.2 j hj
  unfold partP at hj0 ⊢
  rw [nth_setH hj]
  split
  · rename_i e
    right
    rw [hs, ← e]
    omega
  · exact hj0

/-- What putting a part turns. -/
def putLaw (o : List HeldV) (r i : Int) (s : ByteArray) (q : List HeldV × Int) : Prop := q.1.length = o.length ∧ heldsP q.1 ∧ ∀ k, k < o.length → (nth q.1 (k : Nat)).rel = (nth o (k : Nat)).rel ∧ (nth q.1 (k : Nat)).dig = (nth o (k : Nat)).dig ∧ (nth q.1 (k : Nat)).parts.length = (nth o (k : Nat)).parts.length ∧
  ∀ j : Nat, j < (nth o (k : Nat)).parts.length → (((q.2 = 0 ∧ (nth o (k : Nat)).rel = r) ∧ (j : Int) = i) → nth (nth q.1 (k : Nat)).parts (j : Nat) = s) ∧ (¬ ((q.2 = 0 ∧ (nth o (k : Nat)).rel = r) ∧ (j : Int) = i) → nth (nth o (k : Nat)).parts (j : Nat) = nth (nth q.1 (k : Nat)).parts (j : Nat))
theorem putLaw_no {o : List HeldV} {r i : Int} {s : ByteArray} {c : Int} (hok : heldsP o) (hc : ¬ c = 0) : putLaw o r i s (o, c) :=
  ⟨rfl, hok, fun _ _ => ⟨rfl, rfl, rfl, fun _ _ => ⟨fun h => absurd h.1.1 hc, fun _ => rfl⟩⟩⟩
theorem putH_law {o : List HeldV} {r i : Int} {s : ByteArray} (hok : heldsP o) : putLaw o r i s (putH o r i s) := by
  have hfb := find_b o r
  unfold putH
  split
  · exact putLaw_no hok (by decide)
  rename_i h1
  obtain ⟨n, hn⟩ := Int.eq_ofNat_of_zero_le (show 0 ≤ findH o r by omega)
  obtain ⟨hnl, hnr⟩ := find_ok hn
  rw [hn]
  split
  · rename_i h2
    obtain ⟨hp, hi, hs⟩ := putP_at h2
    rw [putP_ok h2, Int.toNat_natCast]
    dsimp only
    have hset : ∀ k, k < o.length → nth (o.set n ⟨(nth o (n : Nat)).rel, (nth o (n : Nat)).size, (nth o (n : Nat)).dig, (nth o (n : Nat)).parts.set i.toNat s⟩) (k : Nat) = if n = k then ⟨(nth o (n : Nat)).rel, (nth o (n : Nat)).size, (nth o (n : Nat)).dig, (nth o (n : Nat)).parts.set i.toNat s⟩ else nth o (k : Nat) := fun k hk => nth_setH hk
    have hrel : ∀ k, k < o.length → (nth (o.set n ⟨(nth o (n : Nat)).rel, (nth o (n : Nat)).size, (nth o (n : Nat)).dig, (nth o (n : Nat)).parts.set i.toNat s⟩) (k : Nat)).rel = (nth o (k : Nat)).rel := fun k hk => by
      rw [hset k hk]
      split
      · rename_i e; rw [← e]
      · rfl
    refine ⟨List.length_set, ⟨by rw [List.length_set]; exact hok.1, fun k hk => ?_⟩, fun k hk => ?_⟩
    · rw [List.length_set] at hk
      have hk0 := hok.2 k hk
      refine ⟨by rw [hrel k hk]; exact hk0.1, ?_, ?_⟩
      · rintro ⟨h3, h4⟩
        rw [hrel k hk, show ((k : Int) - 1) = ((k - 1 : Nat) : Int) by omega, hrel (k - 1) (by omega)] at h4
        exact hk0.2.1 ⟨h3, by rw [show ((k : Int) - 1) = ((k - 1 : Nat) : Int) by omega]; exact h4⟩
      · rw [hset k hk]
        split
        · exact put_parcel hp hi hs
        · exact hk0.2.2
    · refine ⟨hrel k hk, ?_, ?_, fun j hj => ⟨?_, ?_⟩⟩ <;> rw [hset k hk]
      · split
        · rename_i e; rw [← e]
        · rfl
      · split
        · rename_i e; rw [← e, List.length_set]
        · rfl
      · rintro ⟨⟨_, h4⟩, h5⟩
        have e : n = k := held_one hok hnl hk (by rw [hnr, h4])
        subst e
        rw [if_pos rfl]
        dsimp only
        rw [nth_setH hj, if_pos (by omega)]
      · intro h4
        split
        · rename_i e
          subst e
          dsimp only
          rw [nth_setH hj, if_neg]
          intro h5
          exact h4 ⟨⟨rfl, hnr⟩, by omega⟩
        · rfl
  · rename_i h2
    exact putLaw_no hok h2

theorem capJ_put {l : List HeldV} {r i : Int} {s : ByteArray} (hc : capJ l) (hs : s.size ≤ 40) : capJ (putH l r i s).1 := by
  have hfb := find_b l r
  unfold putH
  split
  · exact hc
  rename_i h1
  generalize findH l r = fi at *
  obtain ⟨n, rfl⟩ := Int.eq_ofNat_of_zero_le (show 0 ≤ fi by omega)
  have hn : n < l.length := by omega
  have hx : capV (nth l (n : Nat)) := hc.2 _ (nth_mem hn)
  split
  · rename_i h2
    rw [putP_ok h2, Int.toNat_natCast]
    refine ⟨by rw [List.length_set]; exact hc.1, fun h hm => ?_⟩
    rcases List.mem_or_eq_of_mem_set hm with hm | rfl
    · exact hc.2 _ hm
    · refine ⟨hx.1, by rw [List.length_set]; exact hx.2.1, fun t ht => ?_⟩
      rcases List.mem_or_eq_of_mem_set ht with ht | rfl
      · exact hx.2.2 _ ht
      · exact hs
  · exact hc

end Go.TL
