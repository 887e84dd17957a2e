/- Texts joined. No conditions but those that are written. -/
import Derived.Test.YthkahdjgkcccgaaGreatJM10M13
import Derived.Test.YthkahdjgkcccgaaGreatF7
import Derived.Test.YthkahdjgkcccgaaGreatJF8F9
import Derived.Test.YthkahdjgkcccgaaGreatJC1F11
import Derived.Test.YthkahdjgkcccgaaGreatF5
import Derived.Test.YthkahdjgkcccgaaGreatTOpen
/- Fleets: rolls that are the run of what is applied, both sides. No conditions but those that are written. -/
namespace Go.TL
set_option linter.unusedSimpArgs false
open Go.Proofs Go.RowKit
attribute [local irreducible] wpOpsT wpT EndT Ex.seq Ex.block W

def cmdsM (m : MemberV) : List CmdV := (m.raft.hard.log.take m.applied.toNat).map (·.cmd)
/-- The roll of a member is the run of what it applied. -/
def sameM (of : Int) (m : MemberV) : Prop := (runV ⟨of, [], 0, []⟩ (cmdsM m)).1.of = m.roll.of ∧ (runV ⟨of, [], 0, []⟩ (cmdsM m)).1.rels = m.roll.rels ∧ (runV ⟨of, [], 0, []⟩ (cmdsM m)).1.act = m.roll.act ∧ (runV ⟨of, [], 0, []⟩ (cmdsM m)).1.order = m.roll.order
instance (of : Int) (m : MemberV) : Decidable (sameM of m) := inferInstanceAs (Decidable (_ ∧ _))
def rollsP (of : Int) (l : List MemberV) : Prop := ∀ i, i < l.length → (nth l (i : Nat)).up = true → sameM of (nth l (i : Nat))
def rollsU (of : Int) (u : List MemberV) : Prop := ∀ i, i < u.length → sameM of (nth u (i : Nat))
instance (of : Int) (l : List MemberV) : Decidable (rollsP of l) := by unfold rollsP; infer_instance
instance (of : Int) (l : List MemberV) : Decidable (rollsU of l) := by unfold rollsU; infer_instance
theorem all_memR {p : MemberV → Prop} {l : List MemberV} : (∀ i, i < l.length → p (nth l (i : Nat))) ↔ ∀ m ∈ l, p m := by
  constructor
  · intro h m hm
    obtain ⟨i, hi, rfl⟩ := List.mem_iff_getElem.1 hm
    rw [← nth_get hi]
    exact h i hi
  · intro h i hi
    exact h _ (nth_mem hi)
theorem rolls_iff (of : Int) (l : List MemberV) : rollsP of l ↔ rollsU of (upL l) := by
  rw [rollsP, rollsU, all_memR (p := fun m => m.up = true → sameM of m), all_memR (p := sameM of)]
  constructor
  · intro h m hm
    have := List.mem_filter.1 hm
    exact h m this.1 this.2
  · intro h m hm hu
    exact h m (List.mem_filter.2 ⟨hm, hu⟩)
theorem up_mem {l : List MemberV} {of : Int} {mail : List FlightV} (h : fleetP of l mail) {i : Nat} (hi : i < l.length) (hu : (nth l i).up = true) : 0 ≤ (nth l i).applied ∧ (nth l i).applied ≤ (nth l i).raft.hard.log.length := by
  have hm := h.2.2.2.1 i hi
  unfold memAt memberP at hm
  rcases hm.2 with ⟨hn, _⟩ | ⟨_, hr, _, _, ha, _⟩
  · exact absurd hu hn
  · unfold raftP at hr
    omega
theorem log_at {l : List MemberV} {mail : List FlightV} (h : totFleet l mail ≤ 1048576) {i : Nat} (hi : i < l.length) : (nth l i).raft.hard.log.length ≤ 1048576 := by
  have h1 := sum_at totMemberV_nn hi
  have h2 := totFlightS_nn mail
  have h3 : totMemberV (nth l i) = totMember (nth l i).disk.files (nth l i).raft.hard.log (nth l i).raft.yes (nth l i).raft.next (nth l i).raft.mtch (nth l i).roll.rels (nth l i).roll.order (nth l i).helds := rfl
  unfold totFleet totMemberS at h
  unfold totMember at h3
  have h5 := totRoll_nn (nth l i).roll.rels (nth l i).roll.order
  have h6 : 0 ≤ totDisk (nth l i).disk.files := totFileS_nn _
  have h4 := totHS_nn (nth l i).helds
  have h7 := totIS_nn (nth l i).raft.yes
  have h8 := totIS_nn (nth l i).raft.next
  have h9 := totIS_nn (nth l i).raft.mtch
  have ha := sum_nn totEntryV_nn (nth l i).raft.hard.log
  unfold totRaft totHard totEntryS at h3
  omega
theorem cmds_s (log : List EntryV) {k : Nat} (h : k < log.length) : (log.take (k + 1)).map (·.cmd) = (log.take k).map (·.cmd) ++ [(nth log (k : Nat)).cmd] := by
  rw [take_nth h, List.map_append]; rfl

theorem runV_tot (of : Int) (l : List CmdV) : totRoll (runV ⟨of, [], 0, []⟩ l).1.rels (runV ⟨of, [], 0, []⟩ l).1.order ≤ 1048576 := by
  have h := tot_run ⟨of, [], 0, []⟩ l
  have h0 : totRoll [] [] = 0 := rfl
  dsimp only at h
  unfold runV
  split
  · omega
  · dsimp only; omega

set_option maxHeartbeats 8000000 in
set_option maxHeartbeats 4000000 in
theorem spec_JudgeRolls (k0 k1 : Nat) (of : Int) (l : List MemberV) (mail : List FlightV) (hpre : bndF l mail) : CallsT Tryz.prog [] F.spec_JudgeRolls [.agg [.v (.int .i64 of), .sl false k0 l.length 19 (rowT memberC l), .sl false k1 mail.length 2 (rowT flightC mail)]] (.v (.bool (decide (fleetP of l mail ∧ rollsP of l)))) [] := by
  refine fnT C.spec_JudgeRolls ?_
  have hb1 := hpre.1.1.1
  refine run ?_
  refine r_ifd (fun h => ?_) (fun h => ?_)
  · refine run ?_
    exact r_endF fun hp => h hp.1
  have h := Decidable.not_not.1 h
  have hlen := h.2.1
  have hof := h.1
  have hof5 : 1 ≤ of ∧ of ≤ 5 := by unfold ofP at hof; omega
  refine run ?_
  refine r_for l.length (fun i => [(1, .ptr 0 [] 0), (3, .v (.int .i64 i))]) (fun _ => [⟨0, true, [.v (.int .i64 of), .sl false k0 l.length 19 (rowT memberC l), .sl false k1 mail.length 2 (rowT flightC mail)]⟩]) (fun i => ∀ i', i' < i → (nth l (i' : Nat)).up = true → sameM of (nth l (i' : Nat))) [0] [] all_0 Gc.of (fun i hi hv => ?_) (fun hv => ?_)
  · have hm := bnd_at hpre.1 hi
    have hrt := (sizes_at hpre.2 hi).2
    have hlg := log_at hpre.2 hi
    refine run ?_
    refine r_ifd (fun hn => ?_) (fun hn => ?_)
    · refine run ?_
      exact ⟨[0], [], Gc.of, all_step hv fun a => absurd a hn⟩
    · have hup := Decidable.not_not.1 hn
      have hap := up_mem h hi hup
      have hcl : (cmdsM (nth l (i : Nat))).length = (nth l (i : Nat)).applied.toNat := by rw [cmdsM, List.length_map, List.length_take]; omega
      refine run ?_
      refine r_for (nth l (i : Nat)).applied.toNat (fun j => [(1, .ptr 0 [] 0), (3, .v (.int .i64 i)), (4, .ptr 1 [] 0), (5, .ref 2 [] 0 (((nth l (i : Nat)).raft.hard.log.take j).map (·.cmd)).length), (6, .v (.int .i64 j))]) (fun j => [⟨0, true, [.v (.int .i64 of), .sl false k0 l.length 19 (rowT memberC l), .sl false k1 mail.length 2 (rowT flightC mail)]⟩, ⟨0, true, memberK k0 (nth l (i : Nat))⟩, ⟨5, true, rowT cmdC (((nth l (i : Nat)).raft.hard.log.take j).map (·.cmd))⟩]) (fun _ => True) [0, 1, 2] [] trivial Gc.of (fun j hj _ => ?_) (fun _ => ?_)
      · have hj2 : j < (nth l (i : Nat)).raft.hard.log.length := by omega
        have hj3 : (((nth l (i : Nat)).raft.hard.log.take j).map (·.cmd)).length = j := by rw [List.length_map, List.length_take]; omega
        rw [cmds_s _ hj2]
        generalize ((nth l (i : Nat)).raft.hard.log.take j).map (·.cmd) = cs at *
        refine run ?_
        exact ⟨[0, 1, 4], [], Gc.of, trivial⟩
      · rw [show ((nth l (i : Nat)).raft.hard.log.take (nth l (i : Nat)).applied.toNat).map (·.cmd) = cmdsM (nth l (i : Nat)) from rfl]
        have hsm : sameM of (nth l (i : Nat)) ↔ (runV ⟨of, [], 0, []⟩ (cmdsM (nth l (i : Nat)))).1.of = (nth l (i : Nat)).roll.of ∧ (runV ⟨of, [], 0, []⟩ (cmdsM (nth l (i : Nat)))).1.rels = (nth l (i : Nat)).roll.rels ∧ (runV ⟨of, [], 0, []⟩ (cmdsM (nth l (i : Nat)))).1.act = (nth l (i : Nat)).roll.act ∧ (runV ⟨of, [], 0, []⟩ (cmdsM (nth l (i : Nat)))).1.order = (nth l (i : Nat)).roll.order := Iff.rfl
        have htw := runV_tot of (cmdsM (nth l (i : Nat)))
        have hr := spec_RollRun 1 1 1 of [] 0 [] (cmdsM (nth l (i : Nat))) (by decide) (by omega)
        dsimp only [rollT, rollS, List.cons_append, List.nil_append] at hr
        refine runC ?_
        refine r_callc ?_
        refine runC ?_
        refine r_callp true hr ?_
        generalize (runV ⟨of, [], 0, []⟩ (cmdsM (nth l (i : Nat)))) = w at *
        refine runC ?_
        refine r_callc ?_
        refine run ?_
        refine r_ifd (fun h2 => ?_) (fun h2 => ?_)
        · refine run ?_
          refine r_endF fun hp => h2 ?_
          exact hsm.1 (hp.2 i hi hup)
        · refine run ?_
          exact ⟨[0], [], Gc.of, all_step hv fun _ => hsm.2 (Decidable.not_not.1 h2)⟩
  · refine run ?_
    exact r_endT ⟨h, hv⟩
instance (k0 k1 : Nat) (of : Int) (l : List MemberV) (mail : List FlightV) : Con Tryz.prog F.spec_JudgeRolls [.agg [.v (.int .i64 of), .sl false k0 l.length 19 (rowT memberC l), .sl false k1 mail.length 2 (rowT flightC mail)]] (bndF l mail) (.v (.bool (decide (fleetP of l mail ∧ rollsP of l)))) [] := ⟨fun h => spec_JudgeRolls k0 k1 of l mail h⟩

set_option maxHeartbeats 8000000 in
set_option maxHeartbeats 4000000 in
theorem impl_JudgeRolls (of : Int) (l : List MemberV) (mail : List FlightV) (hpre : bndF l mail) : CallsT Tryz.prog [] F.impl_JudgeRolls [.agg [.v (.int .i64 of), .sl false 0 l.length 19 (rowT memberC l), .sl false 0 mail.length 2 (rowT flightC mail)]] (.v (.bool (decide (fleetP of l mail ∧ rollsP of l)))) [] := by
  refine fnT C.impl_JudgeRolls ?_
  have hl := len_le hpre.2
  have hu := up_len l
  rw [decide_eq_decide.2 (and_congr_right fun _ => rolls_iff of l)]
  refine run ?_
  refine r_ifd (fun h => ?_) (fun h => ?_)
  · refine run ?_
    exact r_endF fun hp => h hp.1
  have h := Decidable.not_not.1 h
  have hof := h.1
  have hof5 : 1 ≤ of ∧ of ≤ 5 := by unfold ofP at hof; omega
  have hbm : ∀ m ∈ upL l, totRoll m.roll.rels m.roll.order ≤ 1048576 ∧ m.raft.hard.log.length ≤ 1048576 ∧ 0 ≤ m.applied ∧ m.applied ≤ m.raft.hard.log.length := by
    intro m hm
    have hm1 := List.mem_filter.1 hm
    obtain ⟨i, hi, rfl⟩ := List.mem_iff_getElem.1 hm1.1
    rw [← nth_get hi] at hm1 ⊢
    exact ⟨(sizes_at hpre.2 hi).2, log_at hpre.2 hi, up_mem h hi hm1.2⟩
  refine run ?_
  refine r_callp false (impl_upOf of l mail hl) ?_
  refine run ?_
  generalize upL l = u at *
  refine r_for u.length (fun i => [(1, .ptr 0 [] 0), (14, .sl false 0 u.length 19 (rowT memberC u)), (15, .v (.int .i64 u.length)), (16, .v (.int .i64 i))]) (fun _ => [⟨0, true, [.v (.int .i64 of), .sl false 0 l.length 19 (rowT memberC l), .sl false 0 mail.length 2 (rowT flightC mail)]⟩]) (fun i => ∀ i', i' < i → sameM of (nth u (i' : Nat))) [0] [] all_0 Gc.of (fun i hi hv => ?_) (fun hv => ?_)
  · have hm := hbm _ (nth_mem hi)
    have hcl : (cmdsM (nth u (i : Nat))).length ≤ 1048576 := by rw [cmdsM, List.length_map, List.length_take]; omega
    have hq1 : ((nth u (i : Nat)).raft.hard.log.take (nth u (i : Nat)).applied.toNat).length ≤ 1048576 := by rw [List.length_take]; omega
    have hq2 : cmdsM (nth u (i : Nat)) = ((nth u (i : Nat)).raft.hard.log.take (nth u (i : Nat)).applied.toNat).map (·.cmd) := rfl
    refine run ?_
    generalize (nth u (i : Nat)).raft.hard.log.take (nth u (i : Nat)).applied.toNat = q at *
    refine r_for q.length (fun j => [(1, .ptr 0 [] 0), (14, .sl false 0 u.length 19 (rowT memberC u)), (15, .v (.int .i64 u.length)), (16, .v (.int .i64 i)), (4, .ptr 1 [] 0), (5, .ref 2 [] 0 ((q.take j).map (·.cmd)).length), (27, .sl false 0 q.length 6 (rowT entryC q)), (28, .v (.int .i64 q.length)), (29, .v (.int .i64 j))]) (fun j => [⟨0, true, [.v (.int .i64 of), .sl false 0 l.length 19 (rowT memberC l), .sl false 0 mail.length 2 (rowT flightC mail)]⟩, ⟨0, true, memberC (nth u (i : Nat))⟩, ⟨5, true, rowT cmdC ((q.take j).map (·.cmd))⟩]) (fun _ => True) [0, 1, 2] [] trivial Gc.of (fun j hj _ => ?_) (fun _ => ?_)
    · have hj3 : ((q.take j).map (·.cmd)).length = j := by rw [List.length_map, List.length_take]; omega
      rw [cmds_s _ hj]
      generalize (q.take j).map (·.cmd) = cs at *
      refine run ?_
      exact ⟨[0, 1, 5], [], Gc.of, trivial⟩
    · rw [List.take_length, ← hq2]
      have hsm : sameM of (nth u (i : Nat)) ↔ (runV ⟨of, [], 0, []⟩ (cmdsM (nth u (i : Nat)))).1.of = (nth u (i : Nat)).roll.of ∧ (runV ⟨of, [], 0, []⟩ (cmdsM (nth u (i : Nat)))).1.rels = (nth u (i : Nat)).roll.rels ∧ (runV ⟨of, [], 0, []⟩ (cmdsM (nth u (i : Nat)))).1.act = (nth u (i : Nat)).roll.act ∧ (runV ⟨of, [], 0, []⟩ (cmdsM (nth u (i : Nat)))).1.order = (nth u (i : Nat)).roll.order := Iff.rfl
      have htw := runV_tot of (cmdsM (nth u (i : Nat)))
      have hr := impl_RollRun 1 1 1 of [] 0 [] (cmdsM (nth u (i : Nat))) (by decide) hcl
      dsimp only [rollT, rollS, List.cons_append, List.nil_append] at hr
      refine runC ?_
      refine r_callc ?_
      refine runC ?_
      refine r_callp true hr ?_
      refine run ?_
      generalize (runV ⟨of, [], 0, []⟩ (cmdsM (nth u (i : Nat)))) = w at *
      refine run ?_
      refine r_ifd (fun h2 => ?_) (fun h2 => ?_)
      · refine run ?_
        refine r_endF fun hp => h2 ?_
        exact hsm.1 (hp.2 i hi)
      · refine run ?_
        exact ⟨[0], [], Gc.of, all_step hv (hsm.2 (Decidable.not_not.1 h2))⟩
  · refine run ?_
    exact r_endT ⟨h, hv⟩
instance (of : Int) (l : List MemberV) (mail : List FlightV) : Con Tryz.prog F.impl_JudgeRolls [.agg [.v (.int .i64 of), .sl false 0 l.length 19 (rowT memberC l), .sl false 0 mail.length 2 (rowT flightC mail)]] (bndF l mail) (.v (.bool (decide (fleetP of l mail ∧ rollsP of l)))) [] := ⟨fun h => impl_JudgeRolls of l mail h⟩

end Go.TL

/- The judge of fleets, both sides. No conditions but those that are written. -/
namespace Go.TL
set_option linter.unusedSimpArgs false
open Go.Proofs Go.RowKit
attribute [local irreducible] wpOpsT wpT EndT Ex.seq Ex.block W

def judgeP (of : Int) (l : List MemberV) (mail : List FlightV) : Prop := fleetP of l mail ∧ (leadL (upL l)).Nodup ∧ logsP l ∧ rollsP of l ∧ textsP l
instance (of : Int) (l : List MemberV) (mail : List FlightV) : Decidable (judgeP of l mail) := by unfold judgeP; infer_instance

set_option maxHeartbeats 4000000 in
theorem spec_JudgeFleet (k0 k1 : Nat) (of : Int) (l : List MemberV) (mail : List FlightV) (hpre : bndF l mail) : CallsT Tryz.prog [] F.spec_JudgeFleet [.agg [.v (.int .i64 of), .sl false k0 l.length 19 (rowT memberC l), .sl false k1 mail.length 2 (rowT flightC mail)]] (.v (.bool (decide (judgeP of l mail)))) [] := by
  refine fnT C.spec_JudgeFleet ?_
  refine run ?_
  refine r_endb ?_
  unfold judgeP
  grind
instance (k0 k1 : Nat) (of : Int) (l : List MemberV) (mail : List FlightV) : Con Tryz.prog F.spec_JudgeFleet [.agg [.v (.int .i64 of), .sl false k0 l.length 19 (rowT memberC l), .sl false k1 mail.length 2 (rowT flightC mail)]] (bndF l mail) (.v (.bool (decide (judgeP of l mail)))) [] := ⟨fun h => spec_JudgeFleet k0 k1 of l mail h⟩

set_option maxHeartbeats 4000000 in
theorem impl_JudgeFleet (of : Int) (l : List MemberV) (mail : List FlightV) (hpre : bndF l mail) : CallsT Tryz.prog [] F.impl_JudgeFleet [.agg [.v (.int .i64 of), .sl false 0 l.length 19 (rowT memberC l), .sl false 0 mail.length 2 (rowT flightC mail)]] (.v (.bool (decide (judgeP of l mail)))) [] := by
  refine fnT C.impl_JudgeFleet ?_
  have c1 := impl_JudgeLeads of l mail hpre
  have c2 := impl_JudgeLogs of l mail hpre
  have c3 := impl_JudgeRolls of l mail hpre
  have c4 := impl_JudgeTexts of l mail hpre
  refine run ?_
  by_cases h1 : fleetP of l mail ∧ (leadL (upL l)).Nodup
  case neg =>
    rw [decide_eq_false h1] at c1
    refine r_callp false c1 ?_
    refine run ?_
    exact r_endF fun hp => h1 ⟨hp.1, hp.2.1⟩
  rw [decide_eq_true h1] at c1
  refine r_callp false c1 ?_
  refine run ?_
  by_cases h2 : fleetP of l mail ∧ logsP l
  case neg =>
    rw [decide_eq_false h2] at c2
    refine r_callp false c2 ?_
    refine run ?_
    exact r_endF fun hp => h2 ⟨hp.1, hp.2.2.1⟩
  rw [decide_eq_true h2] at c2
  refine r_callp false c2 ?_
  refine run ?_
  by_cases h3 : fleetP of l mail ∧ rollsP of l
  case neg =>
    rw [decide_eq_false h3] at c3
    refine r_callp false c3 ?_
    refine run ?_
    exact r_endF fun hp => h3 ⟨hp.1, hp.2.2.2.1⟩
  rw [decide_eq_true h3] at c3
  refine r_callp false c3 ?_
  refine run ?_
  refine r_callp false c4 ?_
  refine run ?_
  refine r_endb ?_
  unfold judgeP
  exact ⟨fun h => ⟨h1.1, h1.2, h2.2, h3.2, h.2⟩, fun h => ⟨h.1, h.2.2.2.2⟩⟩
instance (of : Int) (l : List MemberV) (mail : List FlightV) : Con Tryz.prog F.impl_JudgeFleet [.agg [.v (.int .i64 of), .sl false 0 l.length 19 (rowT memberC l), .sl false 0 mail.length 2 (rowT flightC mail)]] (bndF l mail) (.v (.bool (decide (judgeP of l mail)))) [] := ⟨fun h => impl_JudgeFleet of l mail h⟩

end Go.TL

/- The laws of fleets on trees. No conditions but those that are written. -/
namespace Go.TL
set_option linter.unusedSimpArgs false
open Go.Proofs Go.RowKit

theorem cut_le {a b : Int} (h : ¬ cutI (a - b) < 0) : b ≤ a := by
  unfold cutI at h; split at h <;> omega
theorem totFleet_le {l : List MemberV} {mail : List FlightV} (h : ¬ cutI (1048576 - totFleet l mail) < 0) : totFleet l mail ≤ 1048576 := cut_le h

end Go.TL

/- The law of JudgeFleet on trees. No conditions but those that are written. -/
namespace Go.TL
set_option linter.unusedSimpArgs false
open Go.Proofs Go.RowKit
attribute [local irreducible] wpOpsT wpT EndT Ex.seq Ex.block W

set_option maxHeartbeats 4000000 in
theorem laws_FnExactJudgeFleet (k0 k1 : Nat) (of : Int) (l : List MemberV) (mail : List FlightV) (hpre : bndFleet l mail) : CallsT Tryz.prog [] F.laws_FnExactJudgeFleet [.agg [.v (.int .i64 of), .sl false k0 l.length 19 (rowT memberC l), .sl false k1 mail.length 2 (rowT flightC mail)]] (.v (.bool true)) [] := by
  refine fnT C.laws_FnExactJudgeFleet ?_
  have hb := hpre
  refine run ?_
  refine r_ifd (fun h => ?_) (fun h => ?_)
  · refine run ?_
    exact r_end [] []
  have ht := totFleet_le h
  have hbf : bndF l mail := ⟨hb, ht⟩
  refine run ?_
  refine r_callp false (impl_JudgeFleet of l mail hbf) ?_
  refine run ?_
  exact r_end [] []
instance (k0 k1 : Nat) (of : Int) (l : List MemberV) (mail : List FlightV) : Con Tryz.prog F.laws_FnExactJudgeFleet [.agg [.v (.int .i64 of), .sl false k0 l.length 19 (rowT memberC l), .sl false k1 mail.length 2 (rowT flightC mail)]] (bndFleet l mail) (.v (.bool true)) [] := ⟨fun h => laws_FnExactJudgeFleet k0 k1 of l mail h⟩

end Go.TL
