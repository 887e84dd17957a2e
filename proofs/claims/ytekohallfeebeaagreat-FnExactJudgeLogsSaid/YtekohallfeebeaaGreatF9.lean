/- Fleets: logs that agree, the other side. No conditions but those that are written. -/
import Derived.Test.YtekohallfeebeaaGreatF8
namespace Go.TL
open Go.Proofs Go.RowKit
attribute [local irreducible] wpOpsT wpT EndT Ex.seq Ex.block W

theorem nth_take' {α : Type} [Inhabited α] {l : List α} {i j : Nat} (hj : j < i) (hi : i ≤ l.length) : nth (l.take i) (j : Nat) = nth l (j : Nat) := by
  rw [nth_get (by rw [List.length_take]; omega : j < (l.take i).length), nth_get (by omega : j < l.length), List.getElem_take]
theorem commit_mem {l : List MemberV} {of : Int} {mail : List FlightV} (h : fleetP of l mail) (m : MemberV) (hm : m ∈ l) : 0 ≤ m.raft.commit ∧ m.raft.commit ≤ m.raft.hard.log.length ∧ m.raft.hard.log.length ≤ 80 := by
  obtain ⟨i, hi, rfl⟩ := List.mem_iff_getElem.1 hm
  rw [← nth_get hi]
  exact commit_rng h hi

set_option maxHeartbeats 4000000 in
theorem impl_JudgeLogs (of : Int) (l : List MemberV) (mail : List FlightV) (hpre : bndF l mail) : CallsT Tryz.prog [] F.impl_JudgeLogs [.agg [.v (.int .i64 of), .sl false 0 l.length 19 (rowT memberC l), .sl false 0 mail.length 2 (rowT flightC mail)]] (.v (.bool (decide (fleetP of l mail ∧ logsP l)))) [] := by
  refine fnT C.impl_JudgeLogs ?_
  have hl := len_le hpre.2
  have hu := up_len l
  rw [decide_eq_decide.2 (and_congr_right fun _ => logs_iff l)]
  refine run ?_
  refine r_ifd (fun h => ?_) (fun h => ?_)
  · refine run ?_
    exact r_endF fun hp => h hp.1
  have h := Decidable.not_not.1 h
  have hc : ∀ i, i < (upL l).length → 0 ≤ (nth (upL l) i).raft.commit ∧ (nth (upL l) i).raft.commit ≤ (nth (upL l) i).raft.hard.log.length ∧ (nth (upL l) i).raft.hard.log.length ≤ 80 := fun i hi => commit_mem h _ (List.mem_filter.1 (nth_mem hi)).1
  refine run ?_
  refine r_callp false (impl_upOf of l mail hl) ?_
  refine run ?_
  generalize upL l = u at *
  refine r_for u.length (fun i => [(1, .ptr 0 [] 0), (3, .sl false 0 u.length 19 (rowT memberC u)), (14, .sl false 0 u.length 19 (rowT memberC u)), (15, .v (.int .i64 u.length)), (16, .v (.int .i64 i))]) (fun _ => [⟨0, true, [.v (.int .i64 of), .sl false 0 l.length 19 (rowT memberC l), .sl false 0 mail.length 2 (rowT flightC mail)]⟩]) (fun i => ∀ i', i' < i → ∀ j, j < i' → agreeP (nth u (i' : Nat)) (nth u (j : Nat))) [0] [] all_0 Gc.of (fun i hi hv => ?_) (fun hv => ?_)
  · have ci := hc i hi
    have hti : (u.take i).length = i := by rw [List.length_take]; omega
    refine run ?_
    refine r_for i (fun j => [(1, .ptr 0 [] 0), (3, .sl false 0 u.length 19 (rowT memberC u)), (14, .sl false 0 u.length 19 (rowT memberC u)), (15, .v (.int .i64 u.length)), (16, .v (.int .i64 i)), (5, .ptr 1 [] 0), (23, .sl false 0 (u.take i).length 19 (rowT memberC (u.take i))), (24, .v (.int .i64 ((u.take i).length))), (25, .v (.int .i64 j))]) (fun _ => [⟨0, true, [.v (.int .i64 of), .sl false 0 l.length 19 (rowT memberC l), .sl false 0 mail.length 2 (rowT flightC mail)]⟩, ⟨0, true, memberC (nth u (i : Nat))⟩]) (fun j => ∀ j', j' < j → agreeP (nth u (i : Nat)) (nth u (j' : Nat))) [0, 1] [] all_0 Gc.of (fun j hj hw => ?_) (fun hw => ?_)
    · have hj' : j < u.length := by omega
      have cj := hc j hj'
      have hnt := nth_take' (l := u) hj (by omega)
      rw [← hnt] at cj
      have hag : agreeP (nth u (i : Nat)) (nth u (j : Nat)) ↔ (nth u (i : Nat)).raft.hard.log.take (min (nth u (i : Nat)).raft.commit (nth u (j : Nat)).raft.commit).toNat = (nth u (j : Nat)).raft.hard.log.take (min (nth u (i : Nat)).raft.commit (nth u (j : Nat)).raft.commit).toNat := Iff.rfl
      rw [← hnt] at hag
      refine run ?_
      refine r_ifd (fun h2 => ?_) (fun h2 => ?_)
      · refine run ?_
        exact r_endF fun hp => h2 (hag.1 (hnt ▸ hp.2 i hi j hj))
      · refine run ?_
        exact ⟨[0, 1], [], Gc.of, all_step hw (hnt ▸ hag.2 (Decidable.not_not.1 h2))⟩
    · refine run ?_
      exact ⟨[0], [], Gc.of, all_step hv hw⟩
  · refine run ?_
    exact r_endT ⟨h, hv⟩
instance (of : Int) (l : List MemberV) (mail : List FlightV) : Con Tryz.prog F.impl_JudgeLogs [.agg [.v (.int .i64 of), .sl false 0 l.length 19 (rowT memberC l), .sl false 0 mail.length 2 (rowT flightC mail)]] (bndF l mail) (.v (.bool (decide (fleetP of l mail ∧ logsP l)))) [] := ⟨fun h => impl_JudgeLogs of l mail h⟩

end Go.TL
