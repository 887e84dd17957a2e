/- Fleets: who is up, who leads. No conditions but those that are written. -/
import Derived.Test.YthkahdjgkcccgaaGreatF6
namespace Go.TL
set_option linter.unusedSimpArgs false
open Go.Proofs Go.RowKit
attribute [local irreducible] wpOpsT wpT EndT Ex.seq Ex.block W

def upL (l : List MemberV) : List MemberV := l.filter fun m => m.up
theorem up_step (l : List MemberV) {i : Nat} (h : i < l.length) : upL (l.take (i + 1)) = upL (l.take i) ++ if (nth l i).up = true then [nth l i] else [] := by
  rw [take_nth h]
  unfold upL
  rw [List.filter_append]
  congr 1
  cases hu : (nth l i).up <;> simp [hu]
theorem up_len (l : List MemberV) : (upL l).length ≤ l.length := List.length_filter_le _ _

set_option maxHeartbeats 4000000 in
theorem impl_upOf (of : Int) (l : List MemberV) (mail : List FlightV) (hpre : l.length ≤ 1048576) : CallsT Tryz.prog [] F.impl_upOf [.agg [.v (.int .i64 of), .sl false 0 l.length 19 (rowT memberC l), .sl false 0 mail.length 2 (rowT flightC mail)]] (.sl false 0 (upL l).length 19 (rowT memberC (upL l))) [] := by
  refine fnT C.impl_upOf ?_
  refine run ?_
  refine r_for l.length (fun i => [(1, .ptr 0 [] 0), (3, .ref 1 [] 0 (upL (l.take i)).length), (8, .sl false 0 l.length 19 (rowT memberC l)), (9, .v (.int .i64 l.length)), (10, .v (.int .i64 i))]) (fun i => [⟨0, true, [.v (.int .i64 of), .sl false 0 l.length 19 (rowT memberC l), .sl false 0 mail.length 2 (rowT flightC mail)]⟩, ⟨19, true, rowT memberC (upL (l.take i))⟩]) (fun _ => True) [0, 1] [] trivial Gc.of (fun i hi _ => ?_) (fun _ => ?_)
  · have hu := up_len (l.take i)
    have hl : (l.take i).length ≤ i := List.length_take_le _ _
    rw [up_step l hi]
    refine run ?_
    refine r_ifd (fun h => ?_) (fun h => ?_)
    · rw [if_pos h]
      refine run ?_
      exact ⟨[0, 4], [], Gc.of, trivial⟩
    · rw [if_neg h, List.append_nil]
      refine run ?_
      exact ⟨[0, 1], [], Gc.of, trivial⟩
  · rw [List.take_length]
    refine run ?_
    exact r_end [] [1]
instance (of : Int) (l : List MemberV) (mail : List FlightV) : Con Tryz.prog F.impl_upOf [.agg [.v (.int .i64 of), .sl false 0 l.length 19 (rowT memberC l), .sl false 0 mail.length 2 (rowT flightC mail)]] (l.length ≤ 1048576) (.sl false 0 (upL l).length 19 (rowT memberC (upL l))) [] := ⟨fun h => impl_upOf of l mail h⟩

def clash (a b : MemberV) : Prop := a.up = true ∧ b.up = true ∧ a.raft.role = 3 ∧ b.raft.role = 3 ∧ a.raft.hard.term = b.raft.hard.term
def leadsP (l : List MemberV) : Prop := ∀ i, i < l.length → ∀ j, j < i → ¬ clash (nth l (i : Nat)) (nth l (j : Nat))
def leadL (u : List MemberV) : List Int := (u.filter fun m => decide (m.raft.role = 3)).map fun m => m.raft.hard.term
theorem lead_app (a b : List MemberV) : leadL (a ++ b) = leadL a ++ leadL b := by simp [leadL]
theorem lead_step (u : List MemberV) {i : Nat} (h : i < u.length) : leadL (u.take (i + 1)) = leadL (u.take i) ++ if (nth u i).raft.role = 3 then [(nth u i).raft.hard.term] else [] := by
  rw [take_nth h, lead_app]
  congr 1
  unfold leadL
  by_cases hu : (nth u i).raft.role = 3 <;> simp [hu]
theorem lead_len (u : List MemberV) : (leadL u).length ≤ u.length := by
  unfold leadL
  rw [List.length_map]
  exact List.length_filter_le _ _
theorem lead_pre {u : List MemberV} (i : Nat) (h : (leadL u).Nodup) : (leadL (u.take i)).Nodup := by
  rw [← List.take_append_drop i u, lead_app] at h
  exact (List.nodup_append.1 h).1
theorem nth_get {α : Type} [Inhabited α] {l : List α} {i : Nat} (h : i < l.length) : nth l (i : Nat) = l[i] := by
  have := take_nth h
  rw [List.take_succ_eq_append_getElem h] at this
  exact ((List.cons.inj (List.append_cancel_left this)).1).symm
theorem leads_iff (l : List MemberV) : leadsP l ↔ (leadL (upL l)).Nodup := by
  have e : leadL (upL l) = l.filterMap fun m => if m.up = true ∧ m.raft.role = 3 then some m.raft.hard.term else none := by
    induction l with
    | nil => rfl
    | cons a l ih =>
      have : leadL (upL (a :: l)) = leadL (upL [a]) ++ leadL (upL l) := by
        rw [← lead_app]; unfold upL; rw [← List.filter_append]; rfl
      rw [this, ih, List.filterMap_cons]
      by_cases h1 : a.up = true <;> by_cases h2 : a.raft.role = 3 <;> simp [upL, leadL, h1, h2]
  rw [e, List.Nodup, List.pairwise_filterMap, List.pairwise_iff_getElem]
  unfold leadsP clash
  constructor
  · intro h i j hi hj hij b hb b' hb' hbb
    subst hbb
    have := h j hj i hij
    rw [nth_get hi, nth_get hj] at this
    split at hb
    · split at hb'
      · rename_i h1 h2
        have e1 := Option.some.inj hb
        have e2 := Option.some.inj hb'
        exact this ⟨h2.1, h1.1, h2.2, h1.2, by omega⟩
      · cases hb'
    · cases hb
  · intro h i hi j hj hc
    rw [nth_get hi, nth_get (by omega : j < l.length)] at hc
    exact h j i (by omega) hi hj _ (if_pos ⟨hc.2.1, hc.2.2.2.1⟩) _ (if_pos ⟨hc.1, hc.2.2.1⟩) hc.2.2.2.2.symm
/-- A member's cells under a tag. -/
def memberK (k : Nat) (x : MemberV) : List T := [.v (.bool (decide (x.up = true))), .v (.int .i64 x.disk.room), .sl false k x.disk.files.length 3 (rowT fileC x.disk.files), .v (.int .i64 x.raft.id), .v (.int .i64 x.raft.of), .v (.int .i64 x.raft.role), .v (.int .i64 x.raft.commit), .v (.int .i64 x.raft.hard.term), .v (.int .i64 x.raft.hard.vote), .sl false k x.raft.hard.log.length 6 (rowT entryC x.raft.hard.log), .sl false k x.raft.yes.length 1 (rowT i64C x.raft.yes), .sl false k x.raft.next.length 1 (rowT i64C x.raft.next), .sl false k x.raft.mtch.length 1 (rowT i64C x.raft.mtch), .v (.int .i64 x.applied), .v (.int .i64 x.roll.of), .sl false k x.roll.rels.length 5 (rowT relC x.roll.rels), .v (.int .i64 x.roll.act), .sl false k x.roll.order.length 1 (rowT i64C x.roll.order), .sl false k x.helds.length 4 (rowT heldC x.helds)]
attribute [go_sem] memberK
instance (l : List MemberV) : Decidable (leadsP l) := decidable_of_iff _ (leads_iff l).symm
theorem len_le {l : List MemberV} {mail : List FlightV} (h : totFleet l mail ≤ 1048576) : l.length ≤ 1048576 := by
  have h1 := sum_nn totMemberV_nn l
  have h2 := totFlightS_nn mail
  unfold totFleet totMemberS at h
  omega

set_option maxHeartbeats 4000000 in
theorem impl_JudgeLeads (of : Int) (l : List MemberV) (mail : List FlightV) (hpre : bndF l mail) : CallsT Tryz.prog [] F.impl_JudgeLeads [.agg [.v (.int .i64 of), .sl false 0 l.length 19 (rowT memberC l), .sl false 0 mail.length 2 (rowT flightC mail)]] (.v (.bool (decide (fleetP of l mail ∧ (leadL (upL l)).Nodup)))) [] := by
  refine fnT C.impl_JudgeLeads ?_
  have hl := len_le hpre.2
  have hu := up_len l
  refine run ?_
  refine r_callp false (impl_upOf of l mail hl) ?_
  refine run ?_
  refine r_for (upL l).length (fun i => [(1, .ptr 0 [] 0), (3, .ref 1 [] 0 (leadL ((upL l).take i)).length), (8, .sl false 0 (upL l).length 19 (rowT memberC (upL l))), (9, .v (.int .i64 ((upL l).length))), (10, .v (.int .i64 i))]) (fun i => [⟨0, true, [.v (.int .i64 of), .sl false 0 l.length 19 (rowT memberC l), .sl false 0 mail.length 2 (rowT flightC mail)]⟩, ⟨1, true, rowT i64C (leadL ((upL l).take i))⟩]) (fun i => (leadL ((upL l).take i)).Nodup) [0, 1] [] List.nodup_nil Gc.of (fun i hi hv => ?_) (fun hv => ?_)
  · have h1 := lead_len ((upL l).take i)
    have h2 : ((upL l).take i).length ≤ i := List.length_take_le _ _
    have hst := lead_step (upL l) hi
    refine run ?_
    refine r_ifd (fun h => ?_) (fun h => ?_)
    · rw [if_neg h, List.append_nil] at hst
      rw [hst]
      refine run ?_
      exact ⟨[0, 1], [], Gc.of, hv⟩
    · have h := Decidable.not_not.1 h
      rw [if_pos h] at hst
      refine run ?_
      refine r_ifd (fun h3 => ?_) (fun h3 => ?_)
      · refine run ?_
        refine r_endF ?_
        intro hp
        have := lead_pre (i + 1) hp.2
        rw [hst] at this
        exact (List.nodup_append.1 this).2.2 _ h3 _ (List.mem_singleton_self _) rfl
      · rw [hst]
        refine run ?_
        exact ⟨[0, 4], [], Gc.of, List.nodup_append.2 ⟨hv, by simp, fun a ha b hb e => by
          rw [List.mem_singleton.1 hb] at e
          exact h3 (e ▸ ha)⟩⟩
  · rw [List.take_length] at hv ⊢
    refine run ?_
    refine r_endb ?_
    exact ⟨fun h => ⟨h, hv⟩, fun h => h.1⟩
instance (of : Int) (l : List MemberV) (mail : List FlightV) : Con Tryz.prog F.impl_JudgeLeads [.agg [.v (.int .i64 of), .sl false 0 l.length 19 (rowT memberC l), .sl false 0 mail.length 2 (rowT flightC mail)]] (bndF l mail) (.v (.bool (decide (fleetP of l mail ∧ (leadL (upL l)).Nodup)))) [] := ⟨fun h => impl_JudgeLeads of l mail h⟩

set_option maxHeartbeats 4000000 in
theorem spec_JudgeLeads (k0 k1 : Nat) (of : Int) (l : List MemberV) (mail : List FlightV) (hpre : bndF l mail) : CallsT Tryz.prog [] F.spec_JudgeLeads [.agg [.v (.int .i64 of), .sl false k0 l.length 19 (rowT memberC l), .sl false k1 mail.length 2 (rowT flightC mail)]] (.v (.bool (decide (fleetP of l mail ∧ (leadL (upL l)).Nodup)))) [] := by
  refine fnT C.spec_JudgeLeads ?_
  have hb1 := hpre.1.1.1
  rw [decide_eq_decide.2 (and_congr_right fun _ => (leads_iff l).symm)]
  refine run ?_
  refine r_ifd (fun h => ?_) (fun h => ?_)
  · refine run ?_
    exact r_endF fun hp => h hp.1
  have h := Decidable.not_not.1 h
  have hlen := h.2.1
  have hof5 : 1 ≤ of ∧ of ≤ 5 := by have := h.1; unfold ofP at this; omega
  refine run ?_
  refine r_for l.length (fun i => [(1, .ptr 0 [] 0), (3, .v (.int .i64 i))]) (fun _ => [⟨0, true, [.v (.int .i64 of), .sl false k0 l.length 19 (rowT memberC l), .sl false k1 mail.length 2 (rowT flightC mail)]⟩]) (fun i => ∀ i', i' < i → ∀ j, j < i' → ¬ clash (nth l (i' : Nat)) (nth l (j : Nat))) [0] [] all_0 Gc.of (fun i hi hv => ?_) (fun hv => ?_)
  · refine run ?_
    refine r_for i (fun j => [(1, .ptr 0 [] 0), (3, .v (.int .i64 i)), (4, .v (.int .i64 j))]) (fun _ => [⟨0, true, [.v (.int .i64 of), .sl false k0 l.length 19 (rowT memberC l), .sl false k1 mail.length 2 (rowT flightC mail)]⟩]) (fun j => ∀ j', j' < j → ¬ clash (nth l (i : Nat)) (nth l (j' : Nat))) [0] [] all_0 Gc.of (fun j hj hw => ?_) (fun hw => ?_)
    · refine runS ?_
      refine r_draw2 10 [(1, .ptr 0 [] 0), (3, .v (.int .i64 i)), (4, .v (.int .i64 j)), (5, .ptr 1 [] 0), (6, .ptr 2 [] 0)] [⟨0, true, [.v (.int .i64 of), .sl false k0 l.length 19 (rowT memberC l), .sl false k1 mail.length 2 (rowT flightC mail)]⟩, ⟨0, true, memberK k0 (nth l (i : Nat))⟩, ⟨0, true, memberK k0 (nth l (j : Nat))⟩] ?_ ?_ ?_
      rotate_left
      · refine run ?_
        exact ⟨[0, 1, 2], [], Gc.of⟩
      · refine run ?_
        exact ⟨[0, 2, 1], [], Gc.of⟩
      refine run ?_
      refine r_ifd (fun h2 => ?_) (fun h2 => ?_)
      · refine run ?_
        refine r_endF fun hp => hp.2 i hi j hj ?_
        unfold clash
        grind
      · refine run ?_
        refine ⟨[0], [], Gc.of, all_step hw ?_⟩
        unfold clash
        grind
    · refine run ?_
      exact ⟨[0], [], Gc.of, all_step hv hw⟩
  · refine run ?_
    exact r_endT ⟨h, hv⟩
instance (k0 k1 : Nat) (of : Int) (l : List MemberV) (mail : List FlightV) : Con Tryz.prog F.spec_JudgeLeads [.agg [.v (.int .i64 of), .sl false k0 l.length 19 (rowT memberC l), .sl false k1 mail.length 2 (rowT flightC mail)]] (bndF l mail) (.v (.bool (decide (fleetP of l mail ∧ (leadL (upL l)).Nodup)))) [] := ⟨fun h => spec_JudgeLeads k0 k1 of l mail h⟩

end Go.TL
