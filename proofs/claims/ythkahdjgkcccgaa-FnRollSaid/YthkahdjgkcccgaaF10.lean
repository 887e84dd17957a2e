/- Releases are found in a roll, both sides. No conditions but those that are written. -/
import Derived.Test.YthkahdjgkcccgaaF2
import Derived.Test.YthkahdjgkcccgaaTClo
namespace Go.TL
set_option linter.unusedSimpArgs false
open Go.Proofs Go.RowKit
attribute [local irreducible] wpOpsT wpT EndT Ex.seq Ex.block W

def findR (l : List RelV) (n : Int) : Int := findBy (fun x => decide (x.no = n)) l
theorem findR_b (l : List RelV) (n : Int) : -1 ≤ findR l n ∧ findR l n < l.length := findBy_b _ l
theorem findR_at {l : List RelV} {n : Int} {i : Nat} (hi : i < l.length) (h : (nth l (i : Nat)).no = n) (hv : ∀ j, j < i → ¬ (nth l (j : Nat)).no = n) : findR l n = i :=
  findBy_at hi (decide_eq_true h) fun j hj hh => hv j hj (of_decide_eq_true hh)
theorem findR_no {l : List RelV} {n : Int} (hv : ∀ j, j < l.length → ¬ (nth l (j : Nat)).no = n) : findR l n = -1 :=
  findBy_no fun j hj hh => hv j hj (of_decide_eq_true hh)

set_option maxHeartbeats 4000000 in
theorem spec_l7Find (k0 k1 : Nat) (of : Int) (rels : List RelV) (act : Int) (order : List Int) (n : Int) (hpre : rels.length ≤ 1048576) : CallsT Try.prog [] F.spec_l7Find [.agg [.v (.int .i64 of), .sl false k0 rels.length 5 (rowT relC rels), .v (.int .i64 act), .sl false k1 order.length 1 (rowT i64C order)], .v (.int .i64 n)] (.v (.int .i64 (findR rels n))) [] := by
  refine fnT C.spec_l7Find ?_
  refine run ?_
  refine r_for rels.length (fun i => [(1, .v (.int .i64 n)), (2, .ptr 0 [] 0), (5, .v (.int .i64 i))]) (fun _ => [⟨0, true, [.v (.int .i64 of), .sl false k0 rels.length 5 (rowT relC rels), .v (.int .i64 act), .sl false k1 order.length 1 (rowT i64C order)]⟩]) (fun i => ∀ j, j < i → ¬ (nth rels (j : Nat)).no = n) [0] [] all_0 Gc.of (fun i hi hv => ?_) (fun hv => ?_)
  · refine run ?_
    refine r_ifd (fun h => ?_) (fun h => ?_)
    · rw [findR_at hi h hv]
      refine run ?_
      exact r_end [] []
    · refine run ?_
      exact ⟨[0], [], Gc.of, all_step hv h⟩
  · rw [findR_no hv]
    refine run ?_
    exact r_end [] []
instance (k0 k1 : Nat) (of : Int) (rels : List RelV) (act : Int) (order : List Int) (n : Int) : Con Try.prog F.spec_l7Find [.agg [.v (.int .i64 of), .sl false k0 rels.length 5 (rowT relC rels), .v (.int .i64 act), .sl false k1 order.length 1 (rowT i64C order)], .v (.int .i64 n)] (rels.length ≤ 1048576) (.v (.int .i64 (findR rels n))) [] := ⟨fun h => spec_l7Find k0 k1 of rels act order n h⟩

set_option maxHeartbeats 4000000 in
theorem impl_relAt_1 (k k2 : Nat) (no size : Int) (dig : ByteArray) (ready : List Int) (state n : Int) : CallsT Try.prog [] F.impl_relAt_1 [.agg [.v (.int .i64 no), .v (.int .i64 size), .v (.string dig), .sl false k ready.length 1 (rowT i64C ready), .v (.int .i64 state)], .pz k2 [.v (.int .i64 n)] 0] (.v (.bool (decide (no = n)))) [] := by
  refine fnT C.impl_relAt_1 ?_
  refine run ?_
  exact r_end [] []
instance (k k2 : Nat) (no size : Int) (dig : ByteArray) (ready : List Int) (state n : Int) : Con Try.prog F.impl_relAt_1 [.agg [.v (.int .i64 no), .v (.int .i64 size), .v (.string dig), .sl false k ready.length 1 (rowT i64C ready), .v (.int .i64 state)], .pz k2 [.v (.int .i64 n)] 0] True (.v (.bool (decide (no = n)))) [] := ⟨fun _ => impl_relAt_1 k k2 no size dig ready state n⟩

set_option maxHeartbeats 4000000 in
theorem slices_IndexFunc_Rel (k k2 : Nat) (l : List RelV) (n : Int) (hpre : l.length ≤ 1048576) : CallsT Try.prog [] F.slices_IndexFunc_Rel [.sl false k l.length 5 (rowT relC l), .clo 185 [.pz k2 [.v (.int .i64 n)] 0]] (.v (.int .i64 (findR l n))) [] := by
  refine fnT C.slices_IndexFunc_Rel ?_
  refine run ?_
  refine r_for l.length (fun i => [(0, .sl false k l.length 5 (rowT relC l)), (1, .clo 185 [.pz k2 [.v (.int .i64 n)] 0]), (7, .v (.int .i64 l.length)), (8, .v (.int .i64 i))]) (fun _ => []) (fun i => ∀ j, j < i → ¬ (nth l (j : Nat)).no = n) [] [] all_0 Gc.of (fun i hi hv => ?_) (fun hv => ?_)
  · refine run ?_
    refine r_clo ?_
    refine run ?_
    refine r_ifd (fun h => ?_) (fun h => ?_)
    · rw [findR_at hi h hv]
      refine run ?_
      exact r_end [] []
    · refine run ?_
      exact ⟨[], [], Gc.of, all_step hv h⟩
  · rw [findR_no hv]
    refine run ?_
    exact r_end [] []
instance (k k2 : Nat) (l : List RelV) (n : Int) : Con Try.prog F.slices_IndexFunc_Rel [.sl false k l.length 5 (rowT relC l), .clo 185 [.pz k2 [.v (.int .i64 n)] 0]] (l.length ≤ 1048576) (.v (.int .i64 (findR l n))) [] := ⟨fun h => slices_IndexFunc_Rel k k2 l n h⟩

set_option maxHeartbeats 4000000 in
theorem impl_relAt (k0 k1 : Nat) (of : Int) (rels : List RelV) (act : Int) (order : List Int) (n : Int) (hpre : rels.length ≤ 1048576) : CallsT Try.prog [] F.impl_relAt [.agg [.v (.int .i64 of), .sl false k0 rels.length 5 (rowT relC rels), .v (.int .i64 act), .sl false k1 order.length 1 (rowT i64C order)], .v (.int .i64 n)] (.v (.int .i64 (findR rels n))) [] := by
  refine fnT C.impl_relAt ?_
  refine run ?_
  exact r_end [] []
instance (k0 k1 : Nat) (of : Int) (rels : List RelV) (act : Int) (order : List Int) (n : Int) : Con Try.prog F.impl_relAt [.agg [.v (.int .i64 of), .sl false k0 rels.length 5 (rowT relC rels), .v (.int .i64 act), .sl false k1 order.length 1 (rowT i64C order)], .v (.int .i64 n)] (rels.length ≤ 1048576) (.v (.int .i64 (findR rels n))) [] := ⟨fun h => impl_relAt k0 k1 of rels act order n h⟩

set_option maxHeartbeats 4000000 in
theorem impl_copyInts (k : Nat) (l : List Int) (hpre : l.length ≤ 90000000) : CallsT Try.prog [] F.impl_copyInts [.sl false k l.length 1 (rowT i64C l)] (.sl false 0 l.length 1 (rowT i64C l)) [] := by
  refine fnT C.impl_copyInts ?_
  refine run ?_
  refine r_app (enc := i64C) [] l (by simp only [List.length_nil]; omega) ?_
  rw [List.nil_append]
  refine run ?_
  exact r_end [] [1]
instance (k : Nat) (l : List Int) : Con Try.prog F.impl_copyInts [.sl false k l.length 1 (rowT i64C l)] (l.length ≤ 90000000) (.sl false 0 l.length 1 (rowT i64C l)) [] := ⟨fun h => impl_copyInts k l h⟩

set_option maxHeartbeats 4000000 in
theorem impl_copyRel (k : Nat) (no size : Int) (dig : ByteArray) (ready : List Int) (state : Int) (hpre : ready.length ≤ 90000000) : CallsT Try.prog [] F.impl_copyRel [.agg [.v (.int .i64 no), .v (.int .i64 size), .v (.string dig), .sl false k ready.length 1 (rowT i64C ready), .v (.int .i64 state)]] (.agg [.v (.int .i64 no), .v (.int .i64 size), .v (.string dig), .sl false 0 ready.length 1 (rowT i64C ready), .v (.int .i64 state)]) [] := by
  refine fnT C.impl_copyRel ?_
  refine run ?_
  exact r_end [] []
instance (k : Nat) (no size : Int) (dig : ByteArray) (ready : List Int) (state : Int) : Con Try.prog F.impl_copyRel [.agg [.v (.int .i64 no), .v (.int .i64 size), .v (.string dig), .sl false k ready.length 1 (rowT i64C ready), .v (.int .i64 state)]] (ready.length ≤ 90000000) (.agg [.v (.int .i64 no), .v (.int .i64 size), .v (.string dig), .sl false 0 ready.length 1 (rowT i64C ready), .v (.int .i64 state)]) [] := ⟨fun h => impl_copyRel k no size dig ready state h⟩

/-- What a roll has of a release; of none: nothing. -/
def relOk (of : Int) (rels : List RelV) (act : Int) (order : List Int) (n : Int) : Prop := ¬ (findR rels n < 0 ∨ ¬ rollP of rels act order)
instance (of : Int) (rels : List RelV) (act : Int) (order : List Int) (n : Int) : Decidable (relOk of rels act order n) := inferInstanceAs (Decidable (¬ _))
def relF (of : Int) (rels : List RelV) (act : Int) (order : List Int) (n : Int) : RelV := if findR rels n < 0 ∨ ¬ rollP of rels act order then ⟨0, 0, ⟨#[]⟩, [], 0⟩ else nth rels (findR rels n)
theorem ready_len {rels : List RelV} {order : List Int} (h : totRoll rels order ≤ 1048576) {x : Int} (h0 : 0 ≤ x) (hx : x < rels.length) : (nth rels x).ready.length ≤ 1048576 ∧ rels.length ≤ 1048576 := by
  have e : x = (x.toNat : Int) := by omega
  have h1 := sum_take totRelV (l := rels) (i := x.toNat) (by omega)
  have h2 := sum_le totRelV_nn rels (x.toNat + 1)
  have h3 := sum_nn totRelV_nn (rels.take x.toNat)
  have h4 := totIS_nn order
  rw [← e] at h1
  have h5 : totRelV (nth rels x) = ((nth rels x).dig.size : Int) + totIS (nth rels x).ready := rfl
  have h6 : totIS (nth rels x).ready = (nth rels x).ready.length := rfl
  unfold totRoll totRelS at h
  omega
theorem rels_len {rels : List RelV} {order : List Int} (h : totRoll rels order ≤ 1048576) : rels.length ≤ 1048576 := by
  have h3 := sum_nn totRelV_nn rels
  have h4 := totIS_nn order
  unfold totRoll totRelS at h
  omega

set_option maxHeartbeats 4000000 in
theorem impl_RollFind (k0 k1 : Nat) (of : Int) (rels : List RelV) (act : Int) (order : List Int) (n : Int) (hpre : bndRoll rels order ∧ totRoll rels order ≤ 1048576) : CallsT Try.prog [] F.impl_RollFind [.agg [.v (.int .i64 of), .sl false k0 rels.length 5 (rowT relC rels), .v (.int .i64 act), .sl false k1 order.length 1 (rowT i64C order)], .v (.int .i64 n)] (.tup [.agg (relC (relF of rels act order n)), .v (.bool (decide (relOk of rels act order n)))]) [] := by
  refine fnT C.impl_RollFind ?_
  have hb := hpre
  have hlr := rels_len hpre.2
  have hf := findR_b rels n
  refine run ?_
  refine r_ifd (fun h => ?_) (fun h => ?_)
  · rw [relF, if_pos h, decide_eq_false (fun hp : relOk of rels act order n => hp h)]
    refine run ?_
    exact r_end [] []
  have hrl := ready_len hpre.2 (x := findR rels n) (by omega) hf.2
  rw [relF, if_neg h, decide_eq_true (show relOk of rels act order n from h)]
  refine run ?_
  exact r_end [] []
instance (k0 k1 : Nat) (of : Int) (rels : List RelV) (act : Int) (order : List Int) (n : Int) : Con Try.prog F.impl_RollFind [.agg [.v (.int .i64 of), .sl false k0 rels.length 5 (rowT relC rels), .v (.int .i64 act), .sl false k1 order.length 1 (rowT i64C order)], .v (.int .i64 n)] (bndRoll rels order ∧ totRoll rels order ≤ 1048576) (.tup [.agg (relC (relF of rels act order n)), .v (.bool (decide (relOk of rels act order n)))]) [] := ⟨fun h => impl_RollFind k0 k1 of rels act order n h⟩

end Go.TL
