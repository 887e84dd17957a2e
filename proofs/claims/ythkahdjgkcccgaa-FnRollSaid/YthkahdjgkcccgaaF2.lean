/- Rolls, rafts: what is right. No conditions but those that are written. -/
import Derived.Test.YthkahdjgkcccgaaF1
import Derived.Test.YthkahdjgkcccgaaE2
namespace Go.TL
set_option linter.unusedSimpArgs false
open Go.Proofs Go.RowKit
attribute [local irreducible] wpOpsT wpT EndT Ex.seq Ex.block W

def ofP (x : Int) : Prop := x = 1 ∨ x = 3 ∨ x = 5
theorem wrap_of {x : Int} (h : ofP x) : wrap64 (x - 1) = x - 1 := by unfold ofP at h; exact wrap64_in (by omega)
theorem nodes_ge {of : Int} {l : List Int} (h : nodesP of l) : ∀ i, i < l.length → (i : Int) ≤ nth l (i : Nat) := by
  intro i
  induction i with
  | zero => intro hi; have := (h 0 hi).1.1; omega
  | succ i ih =>
    intro hi
    have h1 := ih (by omega)
    have h2 := (h (i + 1) hi).2
    rw [show (((i + 1 : Nat) : Int) - 1) = (i : Nat) by omega] at h2
    omega
theorem nodes_len {of : Int} {l : List Int} (ho : ofP of) (h : nodesP of l) : (l.length : Int) ≤ of := by
  rcases Nat.eq_zero_or_pos l.length with h0 | h0
  · unfold ofP at ho; omega
  · have h1 := nodes_ge h (l.length - 1) (by omega)
    have h2 := (h (l.length - 1) (by omega)).1.2
    rw [wrap_of ho] at h2
    omega

/-! ### Rolls -/
def relP (of : Int) (l : List RelV) (i : Nat) : Prop := (1 ≤ (nth l (i : Nat)).no ∧ (nth l (i : Nat)).no ≤ 1000) ∧ ¬ ((0 : Int) < i ∧ (nth l (i : Nat)).no ≤ (nth l ((i : Int) - 1)).no) ∧ (0 ≤ (nth l (i : Nat)).size ∧ (nth l (i : Nat)).size ≤ 1000) ∧ ((nth l (i : Nat)).dig.size : Int) = 32 ∧ nodesP of (nth l (i : Nat)).ready ∧ (1 ≤ (nth l (i : Nat)).state ∧ (nth l (i : Nat)).state ≤ 3) ∧ ((nth l (i : Nat)).state = 2 → ((nth l (i : Nat)).ready.length : Int) = of)
instance (of : Int) (l : List RelV) (i : Nat) : Decidable (relP of l i) := inferInstanceAs (Decidable (_ ∧ _))
def actL (l : List RelV) : List Int := (l.filter fun x => decide (x.state = 2)).map (·.no)
theorem actL_yes {l : List RelV} {i : Nat} (hi : i < l.length) (h : (nth l (i : Nat)).state = 2) : actL (l.take i) ++ [(nth l (i : Nat)).no] = actL (l.take (i + 1)) := by
  rw [take_nth hi]; simp [actL, h]
theorem actL_no {l : List RelV} {i : Nat} (hi : i < l.length) (h : ¬ (nth l (i : Nat)).state = 2) : actL (l.take i) = actL (l.take (i + 1)) := by
  rw [take_nth hi]; simp [actL, h]
theorem actL_len (l : List RelV) : (actL l).length ≤ l.length := by unfold actL; rw [List.length_map]; exact List.length_filter_le ..
def lastI (l : List Int) : Int := if 0 < (l.length : Int) then nth l ((l.length : Int) - 1) else 0
/-- What a roll must be. -/
def rollP (of : Int) (rels : List RelV) (act : Int) (order : List Int) : Prop := ofP of ∧ (rels.length : Int) ≤ 30 ∧ (∀ i, i < rels.length → relP of rels i) ∧ actL rels = order ∧ act = lastI (actL rels)
instance (x : Int) : Decidable (ofP x) := inferInstanceAs (Decidable (_ ∨ _))
instance (of : Int) (rels : List RelV) (act : Int) (order : List Int) : Decidable (rollP of rels act order) := inferInstanceAs (Decidable (_ ∧ _))

def rC (k0 k1 : Nat) (of : Int) (rels : List RelV) (act : Int) (order : List Int) : List T := [.v (.int .i64 of), .sl false k0 rels.length 5 (rowT relC rels), .v (.int .i64 act), .sl false k1 order.length 1 (rowT i64C order)]

set_option maxHeartbeats 4000000 in
theorem impl_RollOk (k0 k1 : Nat) (of : Int) (rels : List RelV) (act : Int) (order : List Int) (hpre : bndRoll rels order ∧ totRoll rels order ≤ 1048576) : CallsT Try.prog [] F.impl_RollOk [.agg [.v (.int .i64 of), .sl false k0 rels.length 5 (rowT relC rels), .v (.int .i64 act), .sl false k1 order.length 1 (rowT i64C order)]] (.v (.bool (decide (rollP of rels act order)))) [] := by
  refine fnT C.impl_RollOk ?_
  obtain ⟨⟨⟨hb1, hb2⟩, hb3⟩, ht⟩ := hpre
  have hb3' : order.length * 8 ≤ 140737488351232 := hb3
  have hlr : (rels.length : Int) ≤ 1048576 := by
    have h1 := sum_nn totRelV_nn rels
    have h2 := totIS_nn order
    unfold totRoll totRelS at ht
    omega
  refine run ?_
  refine r_for rels.length (fun i => [(1, .ptr 0 [] 0), (3, .ref 1 [] 0 (actL (rels.take i)).length), (9, .sl false k0 rels.length 5 (rowT relC rels)), (10, .v (.int .i64 rels.length)), (11, .v (.int .i64 i))]) (fun i => [⟨0, true, [.v (.int .i64 of), .sl false k0 rels.length 5 (rowT relC rels), .v (.int .i64 act), .sl false k1 order.length 1 (rowT i64C order)]⟩, ⟨1, true, rowT i64C (actL (rels.take i))⟩]) (fun i => ∀ j, j < i → relP of rels j) [0, 1] [] all_0 Gc.of (fun i hi hv => ?_) (fun hv => ?_)
  · have hr : (nth rels (i : Nat)).ready.length * 8 ≤ 140737488351232 := (hb2 _ (nth_mem hi)).2
    have hal := actL_len (rels.take i)
    rw [List.length_take] at hal
    refine run ?_
    refine r_ifd (fun h => ?_) (fun h => ?_)
    · refine run ?_
      refine r_endF ?_
      intro hp
      have := hp.2.2.1 i hi
      unfold relP at this
      grind
    refine run ?_
    refine r_ifd (fun h2 => ?_) (fun h2 => ?_)
    · refine run ?_
      refine r_endF ?_
      intro hp
      have := hp.2.2.1 i hi
      unfold relP at this
      grind
    have hrel : relP of rels i := by unfold relP; grind
    refine run ?_
    refine r_ifd (fun h3 => ?_) (fun h3 => ?_)
    · refine run ?_
      rw [actL_yes hi h3]
      exact ⟨[0, 4], [], Gc.of, all_step hv hrel⟩
    · refine run ?_
      rw [actL_no hi h3]
      exact ⟨[0, 1], [], Gc.of, all_step hv hrel⟩
  · rw [List.take_length]
    have hal := actL_len rels
    refine run ?_
    refine r_ifd (fun h => ?_) (fun h => ?_)
    · have e : lastI (actL rels) = nth (actL rels) ((actL rels).length - 1) := if_pos h
      refine run ?_
      refine r_endb ?_
      unfold rollP ofP
      rw [e]
      grind
    · have e : lastI (actL rels) = 0 := if_neg h
      refine run ?_
      refine r_endb ?_
      unfold rollP ofP
      rw [e]
      grind
instance (k0 k1 : Nat) (of : Int) (rels : List RelV) (act : Int) (order : List Int) : Con Try.prog F.impl_RollOk [.agg [.v (.int .i64 of), .sl false k0 rels.length 5 (rowT relC rels), .v (.int .i64 act), .sl false k1 order.length 1 (rowT i64C order)]] (bndRoll rels order ∧ totRoll rels order ≤ 1048576) (.v (.bool (decide (rollP of rels act order)))) [] := ⟨fun h => impl_RollOk k0 k1 of rels act order h⟩

def prevI (l : List Int) (i : Nat) : Int := if 0 < (i : Int) then nth l ((i : Int) - 1) else 0
theorem prevI_s (l : List Int) (i : Nat) : nth l (i : Nat) = prevI l (i + 1) := by
  unfold prevI
  rw [if_pos (by omega), show (((i + 1 : Nat) : Int) - 1) = (i : Nat) by omega]

set_option maxHeartbeats 4000000 in
theorem spec_RollOk (k0 k1 : Nat) (of : Int) (rels : List RelV) (act : Int) (order : List Int) (hpre : bndRoll rels order ∧ totRoll rels order ≤ 1048576) : CallsT Try.prog [] F.spec_RollOk [.agg [.v (.int .i64 of), .sl false k0 rels.length 5 (rowT relC rels), .v (.int .i64 act), .sl false k1 order.length 1 (rowT i64C order)]] (.v (.bool (decide (rollP of rels act order)))) [] := by
  refine fnT C.spec_RollOk ?_
  obtain ⟨⟨⟨hb1, hb2⟩, hb3⟩, ht⟩ := hpre
  have hb3' : order.length * 8 ≤ 140737488351232 := hb3
  refine run ?_
  refine r_ifd (fun h => ?_) (fun h => ?_)
  · refine run ?_
    refine r_endF ?_
    intro hp
    have h1 := hp.1
    have h2 := hp.2.1
    have h3 := actL_len rels
    rw [hp.2.2.2.1] at h3
    unfold ofP at h1
    omega
  have ho : ofP of := by unfold ofP; omega
  have hlr : (rels.length : Int) ≤ 30 := by omega
  refine run ?_
  refine r_for rels.length (fun i => [(1, .ptr 0 [] 0), (3, .ref 1 [] 0 (actL (rels.take i)).length), (4, .v (.int .i64 i))]) (fun i => [⟨0, true, [.v (.int .i64 of), .sl false k0 rels.length 5 (rowT relC rels), .v (.int .i64 act), .sl false k1 order.length 1 (rowT i64C order)]⟩, ⟨1, true, rowT i64C (actL (rels.take i))⟩]) (fun i => ∀ j, j < i → relP of rels j) [0, 1] [] all_0 Gc.of (fun i hi hv => ?_) (fun hv => ?_)
  · have hr : (nth rels (i : Nat)).ready.length * 8 ≤ 140737488351232 := (hb2 _ (nth_mem hi)).2
    have hal := actL_len (rels.take i)
    rw [List.length_take] at hal
    refine run ?_
    refine r_ifd (fun h => ?_) (fun h => ?_)
    · refine run ?_
      refine r_endF ?_
      intro hp
      have h1 := hp.2.2.1 i hi
      have h2 : nodesP of (nth rels (i : Nat)).ready → ((nth rels (i : Nat)).ready.length : Int) ≤ of := nodes_len ho
      unfold relP at h1
      grind
    refine run ?_
    refine r_ifd (fun h3 => ?_) (fun h3 => ?_)
    · refine run ?_
      refine r_ifd (fun h4 => ?_) (fun h4 => ?_)
      · refine run ?_
        refine r_endF ?_
        intro hp
        have h1 := hp.2.2.1 i hi
        unfold relP at h1
        grind
      have hrel : relP of rels i := by unfold relP; grind
      refine run ?_
      rw [actL_yes hi h3]
      exact ⟨[0, 4], [], Gc.of, all_step hv hrel⟩
    · have hrel : relP of rels i := by unfold relP; grind
      refine run ?_
      rw [actL_no hi h3]
      exact ⟨[0, 1], [], Gc.of, all_step hv hrel⟩
  · rw [List.take_length]
    have hal := actL_len rels
    refine run ?_
    refine r_for order.length (fun i => [(1, .ptr 0 [] 0), (3, .ref 1 [] 0 (actL rels).length), (6, .v (.int .i64 (prevI order i))), (7, .v (.int .i64 i))]) (fun i => [⟨0, true, [.v (.int .i64 of), .sl false k0 rels.length 5 (rowT relC rels), .v (.int .i64 act), .sl false k1 order.length 1 (rowT i64C order)]⟩, ⟨1, true, rowT i64C (actL rels)⟩]) (fun i => ∀ j, j < i → nth (actL rels) (j : Nat) = nth order (j : Nat)) [0, 1] [] all_0 Gc.of (fun i hi hv2 => ?_) (fun hv2 => ?_)
    · refine run ?_
      refine r_ifd (fun h => ?_) (fun h => ?_)
      · refine run ?_
        refine r_endF ?_
        intro hp
        rw [hp.2.2.2.1] at h
        simp at h
      refine run ?_
      rw [prevI_s order i]
      exact ⟨[0, 1], [], Gc.of, all_step hv2 (by grind)⟩
    · refine run ?_
      refine r_endb ?_
      constructor
      · rintro ⟨h1, h2⟩
        have e : actL rels = order := ext_nth (by omega) (fun j hj => hv2 j (by omega))
        refine ⟨ho, hlr, hv, e, ?_⟩
        rw [e, h2]; rfl
      · intro hp
        have e := hp.2.2.2.1
        refine ⟨by rw [e], ?_⟩
        have h2 := hp.2.2.2.2
        rw [e] at h2
        rw [h2]; rfl
instance (k0 k1 : Nat) (of : Int) (rels : List RelV) (act : Int) (order : List Int) : Con Try.prog F.spec_RollOk [.agg [.v (.int .i64 of), .sl false k0 rels.length 5 (rowT relC rels), .v (.int .i64 act), .sl false k1 order.length 1 (rowT i64C order)]] (bndRoll rels order ∧ totRoll rels order ≤ 1048576) (.v (.bool (decide (rollP of rels act order)))) [] := ⟨fun h => spec_RollOk k0 k1 of rels act order h⟩

end Go.TL
