/- Rafts: what is right. No conditions but those that are written. -/
import Derived.Test.YtjpgfcmkdlnocaaGreatDoorF2
namespace Go.TL
set_option linter.unusedSimpArgs false
open Go.Proofs Go.RowKit
attribute [local irreducible] wpOpsT wpT EndT Ex.seq Ex.block W

/-! ### Rafts -/
/-- What a raft must be. -/
def raftP (id of role commit term vote : Int) (log : List EntryV) (yes next mtch : List Int) : Prop :=
  ofP of ∧ (0 ≤ id ∧ id ≤ of - 1) ∧ (1 ≤ role ∧ role ≤ 3) ∧ hardP term vote log ∧ (0 ≤ commit ∧ commit ≤ log.length) ∧ nodesP of yes ∧ id ∉ yes ∧ (0 < (yes.length : Int) → role = 2) ∧ (role = 1 ∨ (1 ≤ term ∧ vote = id + 1)) ∧ numsP next (if role = 3 then of else 0) 1 (log.length + 1) ∧ numsP mtch (if role = 3 then of else 0) 0 log.length
instance (id of role commit term vote : Int) (log : List EntryV) (yes next mtch : List Int) : Decidable (raftP id of role commit term vote log yes next mtch) := by unfold raftP; infer_instance

set_option maxHeartbeats 4000000 in
theorem spec_l10End (k0 k1 k2 k3 : Nat) (id of role commit term vote : Int) (log : List EntryV) (yes next mtch : List Int) : CallsT Tryz.prog [] F.spec_l10End [.agg [.v (.int .i64 id), .v (.int .i64 of), .v (.int .i64 role), .v (.int .i64 commit), .v (.int .i64 term), .v (.int .i64 vote), .sl false k0 log.length 6 (rowT entryC log), .sl false k1 yes.length 1 (rowT i64C yes), .sl false k2 next.length 1 (rowT i64C next), .sl false k3 mtch.length 1 (rowT i64C mtch)]] (.v (.int .i64 log.length)) [] := by
  refine fnT C.spec_l10End ?_
  refine run ?_
  exact r_end [] []
instance (k0 k1 k2 k3 : Nat) (id of role commit term vote : Int) (log : List EntryV) (yes next mtch : List Int) : Con Tryz.prog F.spec_l10End [.agg [.v (.int .i64 id), .v (.int .i64 of), .v (.int .i64 role), .v (.int .i64 commit), .v (.int .i64 term), .v (.int .i64 vote), .sl false k0 log.length 6 (rowT entryC log), .sl false k1 yes.length 1 (rowT i64C yes), .sl false k2 next.length 1 (rowT i64C next), .sl false k3 mtch.length 1 (rowT i64C mtch)]] True (.v (.int .i64 log.length)) [] := ⟨fun _ => spec_l10End k0 k1 k2 k3 id of role commit term vote log yes next mtch⟩

set_option maxHeartbeats 4000000 in
theorem impl_RaftOk (k0 k1 k2 k3 : Nat) (id of role commit term vote : Int) (log : List EntryV) (yes next mtch : List Int) (hpre : bndRaft log yes next mtch) : CallsT Tryz.prog [] F.impl_RaftOk [.agg [.v (.int .i64 id), .v (.int .i64 of), .v (.int .i64 role), .v (.int .i64 commit), .v (.int .i64 term), .v (.int .i64 vote), .sl false k0 log.length 6 (rowT entryC log), .sl false k1 yes.length 1 (rowT i64C yes), .sl false k2 next.length 1 (rowT i64C next), .sl false k3 mtch.length 1 (rowT i64C mtch)]] (.v (.bool (decide (raftP id of role commit term vote log yes next mtch)))) [] := by
  refine fnT C.impl_RaftOk ?_
  obtain ⟨hl, hy, hn, hm⟩ := hpre
  have hl : bndEntryS log := hl
  have hl' := hl.1
  have hy' : yes.length * 8 ≤ 140737488351232 := hy
  have hn' : next.length * 8 ≤ 140737488351232 := hn
  have hm' : mtch.length * 8 ≤ 140737488351232 := hm
  refine run ?_
  refine r_ifd (fun h => ?_) (fun h => ?_)
  · refine run ?_
    refine r_endF ?_
    unfold raftP ofP
    by_cases ho : ofP of
    · have hw := wrap_of ho
      unfold ofP at ho
      grind
    · unfold ofP at ho
      grind
  have ho : ofP of := by unfold ofP; grind
  have hw := wrap_of ho
  have hid : 0 ≤ id ∧ id ≤ of - 1 := by grind
  have hid4 : id ≤ 4 := by unfold ofP at ho; omega
  refine run ?_
  refine r_ifd (fun h2 => ?_) (fun h2 => ?_)
  · refine run ?_
    refine r_endF ?_
    unfold raftP
    grind
  refine run ?_
  refine r_ifd (fun h3 => ?_) (fun h3 => ?_)
  · refine run ?_
    refine r_endb ?_
    unfold raftP
    rw [if_pos h3]
    grind
  · refine run ?_
    refine r_endb ?_
    unfold raftP
    rw [if_neg h3]
    grind
instance (k0 k1 k2 k3 : Nat) (id of role commit term vote : Int) (log : List EntryV) (yes next mtch : List Int) : Con Tryz.prog F.impl_RaftOk [.agg [.v (.int .i64 id), .v (.int .i64 of), .v (.int .i64 role), .v (.int .i64 commit), .v (.int .i64 term), .v (.int .i64 vote), .sl false k0 log.length 6 (rowT entryC log), .sl false k1 yes.length 1 (rowT i64C yes), .sl false k2 next.length 1 (rowT i64C next), .sl false k3 mtch.length 1 (rowT i64C mtch)]] (bndRaft log yes next mtch) (.v (.bool (decide (raftP id of role commit term vote log yes next mtch)))) [] := ⟨fun h => impl_RaftOk k0 k1 k2 k3 id of role commit term vote log yes next mtch h⟩

set_option maxHeartbeats 4000000 in
theorem spec_RaftOk (k0 k1 k2 k3 : Nat) (id of role commit term vote : Int) (log : List EntryV) (yes next mtch : List Int) (hpre : bndRaft log yes next mtch) : CallsT Tryz.prog [] F.spec_RaftOk [.agg [.v (.int .i64 id), .v (.int .i64 of), .v (.int .i64 role), .v (.int .i64 commit), .v (.int .i64 term), .v (.int .i64 vote), .sl false k0 log.length 6 (rowT entryC log), .sl false k1 yes.length 1 (rowT i64C yes), .sl false k2 next.length 1 (rowT i64C next), .sl false k3 mtch.length 1 (rowT i64C mtch)]] (.v (.bool (decide (raftP id of role commit term vote log yes next mtch)))) [] := by
  refine fnT C.spec_RaftOk ?_
  obtain ⟨hl, hy, hn, hm⟩ := hpre
  have hl : bndEntryS log := hl
  have hl' := hl.1
  have hy' : yes.length * 8 ≤ 140737488351232 := hy
  have hn' : next.length * 8 ≤ 140737488351232 := hn
  have hm' : mtch.length * 8 ≤ 140737488351232 := hm
  refine run ?_
  refine r_ifd (fun h => ?_) (fun h => ?_)
  · refine run ?_
    refine r_endF ?_
    unfold raftP
    intro hp
    have ho := hp.1
    have hw := wrap_of ho
    have hnl := nodes_len ho hp.2.2.2.2.2.1
    unfold ofP at ho
    grind
  have ho : ofP of := by unfold ofP; grind
  have hw := wrap_of ho
  have hid : 0 ≤ id ∧ id ≤ of - 1 := by grind
  have hid4 : id ≤ 4 := by unfold ofP at ho; omega
  have hof : 1 ≤ of ∧ of ≤ 5 := by unfold ofP at ho; omega
  refine run ?_
  refine r_ifd (fun h2 => ?_) (fun h2 => ?_)
  · refine run ?_
    refine r_endF ?_
    unfold raftP
    grind
  refine run ?_
  refine r_ifd (fun h3 => ?_) (fun h3 => ?_)
  · refine run ?_
    refine r_endb ?_
    unfold raftP numsP
    rw [if_neg h3]
    have e1 : ∀ l : List Int, (l.length : Int) = 0 → ∀ i, i < l.length → False := fun l h i hi => by omega
    grind
  have h3 := Decidable.not_not.1 h3
  refine run ?_
  refine r_ifd (fun h4 => ?_) (fun h4 => ?_)
  · refine run ?_
    refine r_endF ?_
    unfold raftP numsP
    rw [if_pos h3]
    grind
  have hln : (next.length : Int) = of := by omega
  have hlm : (mtch.length : Int) = of := by omega
  refine run ?_
  refine r_for of.toNat (fun i => [(1, .ptr 0 [] 0), (3, .v (.int .i64 i))]) (fun _ => [⟨0, true, [.v (.int .i64 id), .v (.int .i64 of), .v (.int .i64 role), .v (.int .i64 commit), .v (.int .i64 term), .v (.int .i64 vote), .sl false k0 log.length 6 (rowT entryC log), .sl false k1 yes.length 1 (rowT i64C yes), .sl false k2 next.length 1 (rowT i64C next), .sl false k3 mtch.length 1 (rowT i64C mtch)]⟩]) (fun i => ∀ j, j < i → (1 ≤ nth next (j : Nat) ∧ nth next (j : Nat) ≤ log.length + 1) ∧ (0 ≤ nth mtch (j : Nat) ∧ nth mtch (j : Nat) ≤ log.length)) [0] [] all_0 Gc.of (fun i hi hv => ?_) (fun hv => ?_)
  · refine run ?_
    refine r_ifd (fun h5 => ?_) (fun h5 => ?_)
    · refine run ?_
      refine r_endF ?_
      unfold raftP numsP
      rw [if_pos h3]
      intro hp
      have a1 := hp.2.2.2.2.2.2.2.2.2.1.2 i (by omega)
      have a2 := hp.2.2.2.2.2.2.2.2.2.2.2 i (by omega)
      omega
    · refine run ?_
      exact ⟨[0], [], Gc.of, all_step hv (by omega)⟩
  · refine run ?_
    refine r_endT ?_
    unfold raftP numsP
    rw [if_pos h3]
    have n1 : ∀ i, i < next.length → (1 ≤ nth next (i : Nat) ∧ nth next (i : Nat) ≤ log.length + 1) := fun i hi => (hv i (by omega)).1
    have n2 : ∀ i, i < mtch.length → (0 ≤ nth mtch (i : Nat) ∧ nth mtch (i : Nat) ≤ log.length) := fun i hi => (hv i (by omega)).2
    clear hv
    grind
instance (k0 k1 k2 k3 : Nat) (id of role commit term vote : Int) (log : List EntryV) (yes next mtch : List Int) : Con Tryz.prog F.spec_RaftOk [.agg [.v (.int .i64 id), .v (.int .i64 of), .v (.int .i64 role), .v (.int .i64 commit), .v (.int .i64 term), .v (.int .i64 vote), .sl false k0 log.length 6 (rowT entryC log), .sl false k1 yes.length 1 (rowT i64C yes), .sl false k2 next.length 1 (rowT i64C next), .sl false k3 mtch.length 1 (rowT i64C mtch)]] (bndRaft log yes next mtch) (.v (.bool (decide (raftP id of role commit term vote log yes next mtch)))) [] := ⟨fun h => spec_RaftOk k0 k1 k2 k3 id of role commit term vote log yes next mtch h⟩

end Go.TL
