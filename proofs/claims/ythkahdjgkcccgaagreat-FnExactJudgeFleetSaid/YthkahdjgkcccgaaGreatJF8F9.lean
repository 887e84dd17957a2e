/- Texts joined. No conditions but those that are written. -/
import Derived.Test.YthkahdjgkcccgaaGreatF7
/- Fleets: logs that agree. No conditions but those that are written. -/
namespace Go.TL
set_option linter.unusedSimpArgs false
open Go.Proofs Go.RowKit
attribute [local irreducible] wpOpsT wpT EndT Ex.seq Ex.block W

theorem cmd_fl : eqFlds Tryz.prog 54 = some [(3, 0), (3, 1), (3, 2), (3, 3), (9, 4)] := by kernel_rfl
theorem entry_fl : eqFlds Tryz.prog 56 = some [(3, 0), (54, 1)] := by kernel_rfl
@[go_sem] theorem cmd_ec (m : Nat) (xs ys : List Value) : eqC Tryz.prog (m + 1) 54 xs ys = eqL Tryz.prog m [(3, 0), (3, 1), (3, 2), (3, 3), (9, 4)] xs ys := eqC_struct cmd_fl xs ys
theorem entry_eg : Tryz.prog.eqGuardType Tryz.prog.depth 56 = false := by kernel_rfl
@[go_sem] theorem entry_eq (neg : Bool) (xs ys : List T) : eqAggT Tryz.prog neg 56 (.agg xs) (.agg ys) = (match toVs xs, toVs ys with | some us, some ws => (eqL Tryz.prog 19 [(3, 0), (54, 1)] us ws).map fun b => .v (.bool (if neg = true then !b else b)) | _, _ => none) := eqAgg_t entry_eg (by kernel_rfl) entry_fl neg xs ys

deriving instance DecidableEq for CmdV, EntryV
theorem ent_eq (a b : EntryV) : a = b ↔ a.term = b.term ∧ a.cmd.kind = b.cmd.kind ∧ a.cmd.rel = b.cmd.rel ∧ a.cmd.node = b.cmd.node ∧ a.cmd.size = b.cmd.size ∧ a.cmd.dig = b.cmd.dig := by
  obtain ⟨t, k, r, n, s, d⟩ := a
  obtain ⟨t', k', r', n', s', d'⟩ := b
  simp

set_option maxHeartbeats 4000000 in
theorem slices_Equal_Entry (k k2 : Nat) (a b : List EntryV) (hpre : a.length ≤ 140737488351232 ∧ b.length ≤ 140737488351232) : CallsT Tryz.prog [] F.slices_Equal_Entry [.sl false k a.length 6 (rowT entryC a), .sl false k2 b.length 6 (rowT entryC b)] (.v (.bool (decide (a = b)))) [] := by
  refine fnT C.slices_Equal_Entry ?_
  refine run ?_
  refine r_ifd (fun h => ?_) (fun h => ?_)
  · refine run ?_
    refine r_endF ?_
    intro e
    rw [e] at h
    exact h rfl
  have hl : a.length = b.length := by omega
  refine run ?_
  refine r_for a.length (fun i => [(0, .sl false k a.length 6 (rowT entryC a)), (1, .sl false k2 b.length 6 (rowT entryC b)), (12, .v (.int .i64 a.length)), (13, .v (.int .i64 i))]) (fun _ => []) (fun i => ∀ j, j < i → nth a (j : Nat) = nth b (j : Nat)) [] [] all_0 Gc.of (fun i hi hv => ?_) (fun hv => ?_)
  · refine run ?_
    refine r_ifd (fun h => ?_) (fun h => ?_)
    · refine run ?_
      refine r_endF ?_
      intro e
      rw [e] at h
      simp at h
    · refine run ?_
      exact ⟨[], [], Gc.of, all_step hv ((ent_eq _ _).2 (by grind))⟩
  · refine run ?_
    exact r_endT (ext_nth hl hv)
instance (k k2 : Nat) (a b : List EntryV) : Con Tryz.prog F.slices_Equal_Entry [.sl false k a.length 6 (rowT entryC a), .sl false k2 b.length 6 (rowT entryC b)] (a.length ≤ 140737488351232 ∧ b.length ≤ 140737488351232) (.v (.bool (decide (a = b)))) [] := ⟨fun h => slices_Equal_Entry k k2 a b h⟩

/-- How far two members' logs must agree. -/
def agreeN (a b : MemberV) : Nat := (min a.raft.commit b.raft.commit).toNat
def agreeP (a b : MemberV) : Prop := a.raft.hard.log.take (agreeN a b) = b.raft.hard.log.take (agreeN a b)
instance (a b : MemberV) : Decidable (agreeP a b) := by unfold agreeP; infer_instance
def logsU (u : List MemberV) : Prop := ∀ i, i < u.length → ∀ j, j < i → agreeP (nth u (i : Nat)) (nth u (j : Nat))
def logsP (l : List MemberV) : Prop := ∀ i, i < l.length → ∀ j, j < i → (nth l (i : Nat)).up = true → (nth l (j : Nat)).up = true → agreeP (nth l (i : Nat)) (nth l (j : Nat))
instance (u : List MemberV) : Decidable (logsU u) := by unfold logsU; infer_instance
instance (u : List MemberV) : Decidable (logsP u) := by unfold logsP; infer_instance
theorem logsU_iff (u : List MemberV) : logsU u ↔ u.Pairwise fun b a => agreeP a b := by
  rw [List.pairwise_iff_getElem]
  unfold logsU
  constructor
  · intro h i j hi hj hij
    have := h j hj i hij
    rwa [nth_get hi, nth_get hj] at this
  · intro h i hi j hj
    have := h j i (by omega) hi hj
    rwa [nth_get hi, nth_get (by omega : j < u.length)]
theorem logsP_iff (l : List MemberV) : logsP l ↔ l.Pairwise fun b a => a.up = true → b.up = true → agreeP a b := by
  rw [List.pairwise_iff_getElem]
  unfold logsP
  constructor
  · intro h i j hi hj hij h1 h2
    have := h j hj i hij
    rw [nth_get hi, nth_get hj] at this
    exact this h1 h2
  · intro h i hi j hj
    have := h j i (by omega) hi hj
    rw [nth_get hi, nth_get (by omega : j < l.length)]
    exact this
theorem logs_iff (l : List MemberV) : logsP l ↔ logsU (upL l) := by
  rw [logsP_iff, logsU_iff, upL, List.pairwise_filter]
  constructor
  · intro h
    exact h.imp fun f h1 h2 => f h2 h1
  · intro h
    exact h.imp fun f h1 h2 => f h2 h1

/-- Two logs agree up to the lesser commit, entry by entry. -/
def sameTo (a b : MemberV) : Prop := ∀ k, k < agreeN a b → nth a.raft.hard.log (k : Nat) = nth b.raft.hard.log (k : Nat)
theorem take_nths {α : Type} [Inhabited α] {a b : List α} {n : Nat} (ha : n ≤ a.length) (hb : n ≤ b.length) : a.take n = b.take n ↔ ∀ k, k < n → nth a (k : Nat) = nth b (k : Nat) := by
  have hat : ∀ (l : List α), n ≤ l.length → ∀ k, k < n → nth (l.take n) (k : Nat) = nth l (k : Nat) := fun l hl k hk => by
    rw [nth_get (by rw [List.length_take]; omega : k < (l.take n).length), nth_get (by omega : k < l.length), List.getElem_take]
  constructor
  · intro h k hk
    rw [← hat a ha k hk, h, hat b hb k hk]
  · intro h
    refine ext_nth (by rw [List.length_take, List.length_take]; omega) fun k hk => ?_
    rw [List.length_take] at hk
    rw [hat a ha k (by omega), hat b hb k (by omega)]
    exact h k (by omega)
/-- What a right fleet says of a member's commit. -/
theorem commit_rng {l : List MemberV} {of : Int} {mail : List FlightV} (h : fleetP of l mail) {i : Nat} (hi : i < l.length) : 0 ≤ (nth l i).raft.commit ∧ (nth l i).raft.commit ≤ (nth l i).raft.hard.log.length ∧ (nth l i).raft.hard.log.length ≤ 80 := by
  have hm := h.2.2.2.1 i hi
  unfold memAt memberP at hm
  rcases hm.2 with ⟨_, hb⟩ | ⟨_, hr, _⟩
  · unfold bareP at hb
    omega
  · unfold raftP hardP at hr
    omega
theorem agree_iff {a b : MemberV} (ha : 0 ≤ a.raft.commit ∧ a.raft.commit ≤ a.raft.hard.log.length) (hb : 0 ≤ b.raft.commit ∧ b.raft.commit ≤ b.raft.hard.log.length) : agreeP a b ↔ sameTo a b := by
  unfold agreeP sameTo
  exact take_nths (by unfold agreeN; omega) (by unfold agreeN; omega)

set_option maxHeartbeats 4000000 in
theorem spec_JudgeLogs (k0 k1 : Nat) (of : Int) (l : List MemberV) (mail : List FlightV) (hpre : bndF l mail) : CallsT Tryz.prog [] F.spec_JudgeLogs [.agg [.v (.int .i64 of), .sl false k0 l.length 19 (rowT memberC l), .sl false k1 mail.length 2 (rowT flightC mail)]] (.v (.bool (decide (fleetP of l mail ∧ logsP l)))) [] := by
  refine fnT C.spec_JudgeLogs ?_
  have hb1 := hpre.1.1.1
  refine run ?_
  refine r_ifd (fun h => ?_) (fun h => ?_)
  · refine run ?_
    exact r_endF fun hp => h hp.1
  have h := Decidable.not_not.1 h
  have hlen := h.2.1
  have hof5 : 1 ≤ of ∧ of ≤ 5 := by have := h.1; unfold ofP at this; omega
  refine run ?_
  refine r_for l.length (fun i => [(1, .ptr 0 [] 0), (3, .v (.int .i64 i))]) (fun _ => [⟨0, true, [.v (.int .i64 of), .sl false k0 l.length 19 (rowT memberC l), .sl false k1 mail.length 2 (rowT flightC mail)]⟩]) (fun i => ∀ i', i' < i → ∀ j, j < i' → (nth l (i' : Nat)).up = true → (nth l (j : Nat)).up = true → agreeP (nth l (i' : Nat)) (nth l (j : Nat))) [0] [] all_0 Gc.of (fun i hi hv => ?_) (fun hv => ?_)
  · have ci := commit_rng h hi
    refine run ?_
    refine r_for i (fun j => [(1, .ptr 0 [] 0), (3, .v (.int .i64 i)), (4, .v (.int .i64 j))]) (fun _ => [⟨0, true, [.v (.int .i64 of), .sl false k0 l.length 19 (rowT memberC l), .sl false k1 mail.length 2 (rowT flightC mail)]⟩]) (fun j => ∀ j', j' < j → (nth l (i : Nat)).up = true → (nth l (j' : Nat)).up = true → agreeP (nth l (i : Nat)) (nth l (j' : Nat))) [0] [] all_0 Gc.of (fun j hj hw => ?_) (fun hw => ?_)
    · have hj' : j < l.length := by omega
      have cj := commit_rng h hj'
      refine runS ?_
      refine r_draw2 10 [(1, .ptr 0 [] 0), (3, .v (.int .i64 i)), (4, .v (.int .i64 j)), (5, .ptr 1 [] 0), (6, .ptr 2 [] 0)] [⟨0, true, [.v (.int .i64 of), .sl false k0 l.length 19 (rowT memberC l), .sl false k1 mail.length 2 (rowT flightC mail)]⟩, ⟨0, true, memberK k0 (nth l (i : Nat))⟩, ⟨0, true, memberK k0 (nth l (j : Nat))⟩] ?_ ?_ ?_
      rotate_left
      · refine run ?_
        exact ⟨[0, 1, 2], [], Gc.of⟩
      · refine run ?_
        exact ⟨[0, 2, 1], [], Gc.of⟩
      have hag := agree_iff (a := nth l (i : Nat)) (b := nth l (j : Nat)) ⟨ci.1, ci.2.1⟩ ⟨cj.1, cj.2.1⟩
      have hn : ((agreeN (nth l (i : Nat)) (nth l (j : Nat)) : Nat) : Int) = min (nth l (i : Nat)).raft.commit (nth l (j : Nat)).raft.commit := by unfold agreeN; omega
      refine run ?_
      by_cases hup : (nth l (i : Nat)).up = true ∧ (nth l (j : Nat)).up = true
      · refine r_for (agreeN (nth l (i : Nat)) (nth l (j : Nat))) (fun k => [(1, .ptr 0 [] 0), (3, .v (.int .i64 i)), (4, .v (.int .i64 j)), (5, .ptr 1 [] 0), (6, .ptr 2 [] 0), (7, .v (.int .i64 (min (nth l (i : Nat)).raft.commit (nth l (j : Nat)).raft.commit))), (8, .v (.int .i64 k))]) (fun _ => [⟨0, true, [.v (.int .i64 of), .sl false k0 l.length 19 (rowT memberC l), .sl false k1 mail.length 2 (rowT flightC mail)]⟩, ⟨0, true, memberK k0 (nth l (i : Nat))⟩, ⟨0, true, memberK k0 (nth l (j : Nat))⟩]) (fun k => ∀ k', k' < k → nth (nth l (i : Nat)).raft.hard.log (k' : Nat) = nth (nth l (j : Nat)).raft.hard.log (k' : Nat)) [0, 1, 2] [] all_0 Gc.of (fun k hk hx => ?_) (fun hx => ?_)
        · refine run ?_
          refine r_ifd (fun h2 => ?_) (fun h2 => ?_)
          · refine run ?_
            refine r_ifd (fun h3 => ?_) (fun h3 => ?_)
            · refine run ?_
              refine r_endF fun hp => ?_
              have := hag.1 (hp.2 i hi j hj hup.1 hup.2) k hk
              rw [this] at h3
              simp at h3
            · refine run ?_
              exact ⟨[0, 1, 2], [], Gc.of, all_step hx ((ent_eq _ _).2 (by grind))⟩
          · exact absurd ⟨⟨by omega, hup.1⟩, hup.2⟩ h2
        · refine run ?_
          exact ⟨[0], [], Gc.of, all_step hw fun _ _ => hag.2 hx⟩
      · refine r_for 0 (fun _ => [(1, .ptr 0 [] 0), (3, .v (.int .i64 i)), (4, .v (.int .i64 j)), (5, .ptr 1 [] 0), (6, .ptr 2 [] 0), (7, .v (.int .i64 (min (nth l (i : Nat)).raft.commit (nth l (j : Nat)).raft.commit))), (8, .v (.int .i64 0))]) (fun _ => [⟨0, true, [.v (.int .i64 of), .sl false k0 l.length 19 (rowT memberC l), .sl false k1 mail.length 2 (rowT flightC mail)]⟩, ⟨0, true, memberK k0 (nth l (i : Nat))⟩, ⟨0, true, memberK k0 (nth l (j : Nat))⟩]) (fun _ => True) [0, 1, 2] [] trivial Gc.of (fun k hk _ => absurd hk (Nat.not_lt_zero _)) (fun _ => ?_)
        refine run ?_
        refine r_ifd (fun h2 => ?_) (fun h2 => ?_)
        · exact absurd ⟨h2.1.2, h2.2⟩ hup
        · refine run ?_
          exact ⟨[0], [], Gc.of, all_step hw fun a b => absurd ⟨a, b⟩ hup⟩
    · refine run ?_
      exact ⟨[0], [], Gc.of, all_step hv hw⟩
  · refine run ?_
    exact r_endT ⟨h, hv⟩
instance (k0 k1 : Nat) (of : Int) (l : List MemberV) (mail : List FlightV) : Con Tryz.prog F.spec_JudgeLogs [.agg [.v (.int .i64 of), .sl false k0 l.length 19 (rowT memberC l), .sl false k1 mail.length 2 (rowT flightC mail)]] (bndF l mail) (.v (.bool (decide (fleetP of l mail ∧ logsP l)))) [] := ⟨fun h => spec_JudgeLogs k0 k1 of l mail h⟩

end Go.TL

/- Fleets: logs that agree, the other side. No conditions but those that are written. -/
namespace Go.TL
set_option linter.unusedSimpArgs false
open Go.Proofs Go.RowKit
attribute [local irreducible] wpOpsT wpT EndT Ex.seq Ex.block W

theorem nth_take' {α : Type} [Inhabited α] {l : List α} {i j : Nat} (hj : j < i) (hi : i ≤ l.length) : nth (l.take i) (j : Nat) = nth l (j : Nat) := by
  rw [nth_get (by rw [List.length_take]; omega : j < (l.take i).length), nth_get (by omega : j < l.length), List.getElem_take]
theorem commit_mem {l : List MemberV} {of : Int} {mail : List FlightV} (h : fleetP of l mail) (m : MemberV) (hm : m ∈ l) : 0 ≤ m.raft.commit ∧ m.raft.commit ≤ m.raft.hard.log.length ∧ m.raft.hard.log.length ≤ 80 := by
  obtain ⟨i, hi, rfl⟩ := List.mem_iff_getElem.1 hm
  rw [← nth_get hi]
  exact commit_rng h hi

set_option maxHeartbeats 4000000 in
theorem impl_JudgeLogs (of : Int) (l : List MemberV) (mail : List FlightV) (hpre : bndF l mail) : CallsT Tryz.prog [] F.impl_JudgeLogs [.agg [.v (.int .i64 of), .sl false 0 l.length 19 (rowT memberC l), .sl false 0 mail.length 2 (rowT flightC mail)]] (.v (.bool (decide (fleetP of l mail ∧ logsP l)))) [] := by
  refine fnT C.impl_JudgeLogs ?_
  have hl := len_le hpre.2
  have hu := up_len l
  rw [decide_eq_decide.2 (and_congr_right fun _ => logs_iff l)]
  refine run ?_
  refine r_ifd (fun h => ?_) (fun h => ?_)
  · refine run ?_
    exact r_endF fun hp => h hp.1
  have h := Decidable.not_not.1 h
  have hc : ∀ i, i < (upL l).length → 0 ≤ (nth (upL l) i).raft.commit ∧ (nth (upL l) i).raft.commit ≤ (nth (upL l) i).raft.hard.log.length ∧ (nth (upL l) i).raft.hard.log.length ≤ 80 := fun i hi => commit_mem h _ (List.mem_filter.1 (nth_mem hi)).1
  refine run ?_
  refine r_callp false (impl_upOf of l mail hl) ?_
  refine run ?_
  generalize upL l = u at *
  refine r_for u.length (fun i => [(1, .ptr 0 [] 0), (3, .sl false 0 u.length 19 (rowT memberC u)), (14, .sl false 0 u.length 19 (rowT memberC u)), (15, .v (.int .i64 u.length)), (16, .v (.int .i64 i))]) (fun _ => [⟨0, true, [.v (.int .i64 of), .sl false 0 l.length 19 (rowT memberC l), .sl false 0 mail.length 2 (rowT flightC mail)]⟩]) (fun i => ∀ i', i' < i → ∀ j, j < i' → agreeP (nth u (i' : Nat)) (nth u (j : Nat))) [0] [] all_0 Gc.of (fun i hi hv => ?_) (fun hv => ?_)
  · have ci := hc i hi
    have hti : (u.take i).length = i := by rw [List.length_take]; omega
    refine run ?_
    refine r_for i (fun j => [(1, .ptr 0 [] 0), (3, .sl false 0 u.length 19 (rowT memberC u)), (14, .sl false 0 u.length 19 (rowT memberC u)), (15, .v (.int .i64 u.length)), (16, .v (.int .i64 i)), (5, .ptr 1 [] 0), (23, .sl false 0 (u.take i).length 19 (rowT memberC (u.take i))), (24, .v (.int .i64 ((u.take i).length))), (25, .v (.int .i64 j))]) (fun _ => [⟨0, true, [.v (.int .i64 of), .sl false 0 l.length 19 (rowT memberC l), .sl false 0 mail.length 2 (rowT flightC mail)]⟩, ⟨0, true, memberC (nth u (i : Nat))⟩]) (fun j => ∀ j', j' < j → agreeP (nth u (i : Nat)) (nth u (j' : Nat))) [0, 1] [] all_0 Gc.of (fun j hj hw => ?_) (fun hw => ?_)
    · have hj' : j < u.length := by omega
      have cj := hc j hj'
      have hnt := nth_take' (l := u) hj (by omega)
      rw [← hnt] at cj
      have hag : agreeP (nth u (i : Nat)) (nth u (j : Nat)) ↔ (nth u (i : Nat)).raft.hard.log.take (min (nth u (i : Nat)).raft.commit (nth u (j : Nat)).raft.commit).toNat = (nth u (j : Nat)).raft.hard.log.take (min (nth u (i : Nat)).raft.commit (nth u (j : Nat)).raft.commit).toNat := Iff.rfl
      rw [← hnt] at hag
      refine run ?_
      refine r_ifd (fun h2 => ?_) (fun h2 => ?_)
      · refine run ?_
        exact r_endF fun hp => h2 (hag.1 (hnt ▸ hp.2 i hi j hj))
      · refine run ?_
        exact ⟨[0, 1], [], Gc.of, all_step hw (hnt ▸ hag.2 (Decidable.not_not.1 h2))⟩
    · refine run ?_
      exact ⟨[0], [], Gc.of, all_step hv hw⟩
  · refine run ?_
    exact r_endT ⟨h, hv⟩
instance (of : Int) (l : List MemberV) (mail : List FlightV) : Con Tryz.prog F.impl_JudgeLogs [.agg [.v (.int .i64 of), .sl false 0 l.length 19 (rowT memberC l), .sl false 0 mail.length 2 (rowT flightC mail)]] (bndF l mail) (.v (.bool (decide (fleetP of l mail ∧ logsP l)))) [] := ⟨fun h => impl_JudgeLogs of l mail h⟩

end Go.TL
