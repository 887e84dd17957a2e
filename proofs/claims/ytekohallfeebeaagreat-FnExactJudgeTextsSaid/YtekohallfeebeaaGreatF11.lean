/- Fleets: texts that are there, both sides. No conditions but those that are written. -/
import Derived.Test.YtekohallfeebeaaGreatF7
import Derived.Test.YtekohallfeebeaaGreatTDr3
import Derived.Test.YtekohallfeebeaaGreatF10
import Derived.Test.YtekohallfeebeaaGreatS9
namespace Go.TL
open Go.Proofs Go.RowKit
attribute [local irreducible] wpOpsT wpT EndT Ex.seq Ex.block W

theorem text_nn {l : List HeldV} {r : Int} (h : textOk l r) : 0 ≤ findH l r := by
  have := h.1
  omega
theorem spec_HeldText' (k : Nat) (l : List HeldV) (r : Int) (hpre : bndHS l ∧ totHS l ≤ 1048576) : CallsT Tryz.prog [] F.spec_HeldText [.sl false k l.length 4 (rowT heldC l), .v (.int .i64 r)] (.tup [.v (.string (textS l r)), .v (.bool (decide (0 ≤ findH l r ∧ textOk l r)))]) [] := by
  rw [show decide (0 ≤ findH l r ∧ textOk l r) = decide (textOk l r) from decide_eq_decide.2 ⟨fun h => h.2, fun h => ⟨text_nn h, h⟩⟩]
  exact spec_HeldText k l r hpre
instance (k : Nat) (l : List HeldV) (r : Int) : Con Tryz.prog F.spec_HeldText [.sl false k l.length 4 (rowT heldC l), .v (.int .i64 r)] (bndHS l ∧ totHS l ≤ 1048576) (.tup [.v (.string (textS l r)), .v (.bool (decide (0 ≤ findH l r ∧ textOk l r)))]) [] := ⟨fun h => spec_HeldText' k l r h⟩
theorem held_at {l : List MemberV} {mail : List FlightV} (h : totFleet l mail ≤ 1048576) {i : Nat} (hi : i < l.length) : totHS (nth l i).helds ≤ 1048576 := by
  have h1 := sum_at totMemberV_nn hi
  have h2 := totFlightS_nn mail
  have h3 : totMemberV (nth l i) = totMember (nth l i).disk.files (nth l i).raft.hard.log (nth l i).raft.yes (nth l i).raft.next (nth l i).raft.mtch (nth l i).roll.rels (nth l i).roll.order (nth l i).helds := rfl
  have h4 := totRaft_nn (nth l i).raft.hard.log (nth l i).raft.yes (nth l i).raft.next (nth l i).raft.mtch
  have h5 := totRoll_nn (nth l i).roll.rels (nth l i).roll.order
  have h6 : 0 ≤ totDisk (nth l i).disk.files := totFileS_nn _
  unfold totFleet totMemberS at h
  unfold totMember at h3
  omega

/-- The text of a release is there, and as the roll says. -/
def hasQ (of : Int) (rels : List RelV) (act : Int) (order : List Int) (helds : List HeldV) (r : Int) : Prop :=
  relOk of rels act order r ∧ textOk helds r ∧ (nth helds (findH helds r)).size = (relF of rels act order r).size ∧ (nth helds (findH helds r)).dig = (relF of rels act order r).dig
instance (of : Int) (rels : List RelV) (act : Int) (order : List Int) (helds : List HeldV) (r : Int) : Decidable (hasQ of rels act order helds r) := inferInstanceAs (Decidable (_ ∧ _))
def hasM (m : MemberV) (r : Int) : Prop := hasQ m.roll.of m.roll.rels m.roll.act m.roll.order m.helds r
instance (m : MemberV) (r : Int) : Decidable (hasM m r) := inferInstanceAs (Decidable (hasQ ..))
def hasAll (m : MemberV) : Prop := ∀ j, j < m.roll.order.length → hasM m (nth m.roll.order (j : Nat))
instance (m : MemberV) : Decidable (hasAll m) := by unfold hasAll; infer_instance
def textsP (l : List MemberV) : Prop := ∀ i, i < l.length → (nth l (i : Nat)).up = true → hasAll (nth l (i : Nat))
def textsU (u : List MemberV) : Prop := ∀ i, i < u.length → hasAll (nth u (i : Nat))
instance (l : List MemberV) : Decidable (textsP l) := by unfold textsP; infer_instance
instance (l : List MemberV) : Decidable (textsU l) := by unfold textsU; infer_instance
theorem all_mem {p : MemberV → Prop} {l : List MemberV} : (∀ i, i < l.length → p (nth l (i : Nat))) ↔ ∀ m ∈ l, p m := by
  constructor
  · intro h m hm
    obtain ⟨i, hi, rfl⟩ := List.mem_iff_getElem.1 hm
    rw [← nth_get hi]
    exact h i hi
  · intro h i hi
    exact h _ (nth_mem hi)
theorem texts_iff (l : List MemberV) : textsP l ↔ textsU (upL l) := by
  rw [textsP, textsU, all_mem (p := fun m => m.up = true → hasAll m), all_mem (p := hasAll)]
  constructor
  · intro h m hm
    have := List.mem_filter.1 hm
    exact h m this.1 this.2
  · intro h m hm hu
    exact h m (List.mem_filter.2 ⟨hm, hu⟩)
theorem findR_mem {l : List RelV} {n : Int} (h : ∃ x ∈ l, x.no = n) : 0 ≤ findR l n := by
  obtain ⟨x, hx, hn⟩ := h
  have : l.findIdx (fun x => decide (x.no = n)) < l.length := List.findIdx_lt_length_of_exists ⟨x, hx, decide_eq_true hn⟩
  unfold findR findBy
  rw [if_pos this]; omega
theorem rel_found {of : Int} {rels : List RelV} {act : Int} {order : List Int} (h : rollP of rels act order) {j : Nat} (hj : j < order.length) : relOk of rels act order (nth order (j : Nat)) := by
  have hm : nth order (j : Nat) ∈ actL rels := by rw [h.2.2.2.1]; exact nth_mem hj
  obtain ⟨x, hx, he⟩ := List.mem_map.1 hm
  have := findR_mem ⟨x, (List.mem_filter.1 hx).1, he⟩
  intro hh
  rcases hh with hh | hh
  · omega
  · exact hh h
theorem up_roll {l : List MemberV} {of : Int} {mail : List FlightV} (h : fleetP of l mail) {i : Nat} (hi : i < l.length) (hu : (nth l i).up = true) : rollP (nth l i).roll.of (nth l i).roll.rels (nth l i).roll.act (nth l i).roll.order := by
  have hm := h.2.2.2.1 i hi
  unfold memAt memberP at hm
  rcases hm.2 with ⟨hn, _⟩ | ⟨_, _, _, _, _, hr, _⟩
  · exact absurd hu hn
  · exact hr

set_option maxHeartbeats 4000000 in
theorem impl_hasText (k0 k1 k2 k3 k4 k5 k6 k7 : Nat) (up : Prop) [Decidable up] (disk_room : Int) (disk_files : List FileV) (raft_id : Int) (raft_of : Int) (raft_role : Int) (raft_commit : Int) (raft_hard_term : Int) (raft_hard_vote : Int) (raft_hard_log : List EntryV) (raft_yes : List Int) (raft_next : List Int) (raft_mtch : List Int) (applied : Int) (roll_of : Int) (roll_rels : List RelV) (roll_act : Int) (roll_order : List Int) (helds : List HeldV) (r : Int) (hpre : bndMember disk_files raft_hard_log raft_yes raft_next raft_mtch roll_rels roll_order helds ∧ totRoll roll_rels roll_order ≤ 1048576 ∧ totHS helds ≤ 1048576) : CallsT Tryz.prog [] F.impl_hasText [.agg [.v (.bool (decide up)), .v (.int .i64 disk_room), .sl false k0 disk_files.length 3 (rowT fileC disk_files), .v (.int .i64 raft_id), .v (.int .i64 raft_of), .v (.int .i64 raft_role), .v (.int .i64 raft_commit), .v (.int .i64 raft_hard_term), .v (.int .i64 raft_hard_vote), .sl false k1 raft_hard_log.length 6 (rowT entryC raft_hard_log), .sl false k2 raft_yes.length 1 (rowT i64C raft_yes), .sl false k3 raft_next.length 1 (rowT i64C raft_next), .sl false k4 raft_mtch.length 1 (rowT i64C raft_mtch), .v (.int .i64 applied), .v (.int .i64 roll_of), .sl false k5 roll_rels.length 5 (rowT relC roll_rels), .v (.int .i64 roll_act), .sl false k6 roll_order.length 1 (rowT i64C roll_order), .sl false k7 helds.length 4 (rowT heldC helds)], .v (.int .i64 r)] (.v (.bool (decide (hasQ roll_of roll_rels roll_act roll_order helds r)))) [] := by
  refine fnT C.impl_hasText ?_
  obtain ⟨hb, hr, hh⟩ := hpre
  have hbr : bndRoll roll_rels roll_order ∧ totRoll roll_rels roll_order ≤ 1048576 := ⟨hb.2.2.1, hr⟩
  have hbh : bndHS helds ∧ totHS helds ≤ 1048576 := ⟨hb.2.2.2, hh⟩
  have hb1 := hb.2.2.2.1
  have hf := find_b helds r
  refine run ?_
  refine r_ifd (fun h => ?_) (fun h => ?_)
  · refine run ?_
    refine r_endF fun hp => ?_
    rcases h with h | h
    · exact h hp.1
    · exact h hp.2.1
  have h0 : relOk roll_of roll_rels roll_act roll_order r := Decidable.by_contra fun hn => h (.inl hn)
  have h1 : textOk helds r := Decidable.by_contra fun hn => h (.inr hn)
  have h2 := text_nn h1
  refine runC ?_
  refine r_callc ?_ (hp := dr_still)
  refine runC ?_
  refine r_do ?_ (hp := dr_chainc)
  refine run ?_
  refine r_endb ?_
  unfold hasQ
  exact ⟨fun hp => ⟨h0, h1, hp⟩, fun hp => hp.2.2⟩
instance (k0 k1 k2 k3 k4 k5 k6 k7 : Nat) (up : Prop) [Decidable up] (disk_room : Int) (disk_files : List FileV) (raft_id : Int) (raft_of : Int) (raft_role : Int) (raft_commit : Int) (raft_hard_term : Int) (raft_hard_vote : Int) (raft_hard_log : List EntryV) (raft_yes : List Int) (raft_next : List Int) (raft_mtch : List Int) (applied : Int) (roll_of : Int) (roll_rels : List RelV) (roll_act : Int) (roll_order : List Int) (helds : List HeldV) (r : Int) : Con Tryz.prog F.impl_hasText [.agg [.v (.bool (decide up)), .v (.int .i64 disk_room), .sl false k0 disk_files.length 3 (rowT fileC disk_files), .v (.int .i64 raft_id), .v (.int .i64 raft_of), .v (.int .i64 raft_role), .v (.int .i64 raft_commit), .v (.int .i64 raft_hard_term), .v (.int .i64 raft_hard_vote), .sl false k1 raft_hard_log.length 6 (rowT entryC raft_hard_log), .sl false k2 raft_yes.length 1 (rowT i64C raft_yes), .sl false k3 raft_next.length 1 (rowT i64C raft_next), .sl false k4 raft_mtch.length 1 (rowT i64C raft_mtch), .v (.int .i64 applied), .v (.int .i64 roll_of), .sl false k5 roll_rels.length 5 (rowT relC roll_rels), .v (.int .i64 roll_act), .sl false k6 roll_order.length 1 (rowT i64C roll_order), .sl false k7 helds.length 4 (rowT heldC helds)], .v (.int .i64 r)] (bndMember disk_files raft_hard_log raft_yes raft_next raft_mtch roll_rels roll_order helds ∧ totRoll roll_rels roll_order ≤ 1048576 ∧ totHS helds ≤ 1048576) (.v (.bool (decide (hasQ roll_of roll_rels roll_act roll_order helds r)))) [] := ⟨fun h => impl_hasText k0 k1 k2 k3 k4 k5 k6 k7 up disk_room disk_files raft_id raft_of raft_role raft_commit raft_hard_term raft_hard_vote raft_hard_log raft_yes raft_next raft_mtch applied roll_of roll_rels roll_act roll_order helds r h⟩

set_option maxHeartbeats 4000000 in
theorem impl_JudgeTexts (of : Int) (l : List MemberV) (mail : List FlightV) (hpre : bndF l mail) : CallsT Tryz.prog [] F.impl_JudgeTexts [.agg [.v (.int .i64 of), .sl false 0 l.length 19 (rowT memberC l), .sl false 0 mail.length 2 (rowT flightC mail)]] (.v (.bool (decide (fleetP of l mail ∧ textsP l)))) [] := by
  refine fnT C.impl_JudgeTexts ?_
  have hl := len_le hpre.2
  have hu := up_len l
  rw [decide_eq_decide.2 (and_congr_right fun _ => texts_iff l)]
  refine run ?_
  refine r_ifd (fun h => ?_) (fun h => ?_)
  · refine run ?_
    exact r_endF fun hp => h hp.1
  have h := Decidable.not_not.1 h
  have hbm : ∀ m ∈ upL l, bndMember m.disk.files m.raft.hard.log m.raft.yes m.raft.next m.raft.mtch m.roll.rels m.roll.order m.helds ∧ totRoll m.roll.rels m.roll.order ≤ 1048576 ∧ totHS m.helds ≤ 1048576 := by
    intro m hm
    obtain ⟨i, hi, rfl⟩ := List.mem_iff_getElem.1 (List.mem_filter.1 hm).1
    rw [← nth_get hi]
    exact ⟨bnd_at hpre.1 hi, (sizes_at hpre.2 hi).2, held_at hpre.2 hi⟩
  refine run ?_
  refine r_callp false (impl_upOf of l mail hl) ?_
  refine run ?_
  generalize upL l = u at *
  refine r_for u.length (fun i => [(1, .ptr 0 [] 0), (11, .sl false 0 u.length 19 (rowT memberC u)), (12, .v (.int .i64 u.length)), (13, .v (.int .i64 i))]) (fun _ => [⟨0, true, [.v (.int .i64 of), .sl false 0 l.length 19 (rowT memberC l), .sl false 0 mail.length 2 (rowT flightC mail)]⟩]) (fun i => ∀ i', i' < i → hasAll (nth u (i' : Nat))) [0] [] all_0 Gc.of (fun i hi hv => ?_) (fun hv => ?_)
  · have hm := hbm _ (nth_mem hi)
    have ho : (nth u (i : Nat)).roll.order.length * 8 ≤ 140737488351232 := hm.1.2.2.1.2
    refine run ?_
    refine r_for (nth u (i : Nat)).roll.order.length (fun j => [(1, .ptr 0 [] 0), (11, .sl false 0 u.length 19 (rowT memberC u)), (12, .v (.int .i64 u.length)), (13, .v (.int .i64 i)), (4, .ptr 1 [] 0), (19, .sl false 0 (nth u (i : Nat)).roll.order.length 1 (rowT i64C (nth u (i : Nat)).roll.order)), (20, .v (.int .i64 ((nth u (i : Nat)).roll.order.length))), (21, .v (.int .i64 j))]) (fun _ => [⟨0, true, [.v (.int .i64 of), .sl false 0 l.length 19 (rowT memberC l), .sl false 0 mail.length 2 (rowT flightC mail)]⟩, ⟨0, true, memberC (nth u (i : Nat))⟩]) (fun j => ∀ j', j' < j → hasM (nth u (i : Nat)) (nth (nth u (i : Nat)).roll.order (j' : Nat))) [0, 1] [] all_0 Gc.of (fun j hj hw => ?_) (fun hw => ?_)
    · refine run ?_
      refine r_ifd (fun h2 => ?_) (fun h2 => ?_)
      · refine run ?_
        exact r_endF fun hp => h2 (hp.2 i hi j hj)
      · refine run ?_
        exact ⟨[0, 1], [], Gc.of, all_step hw (Decidable.not_not.1 h2)⟩
    · refine run ?_
      exact ⟨[0], [], Gc.of, all_step hv hw⟩
  · refine run ?_
    exact r_endT ⟨h, hv⟩
instance (of : Int) (l : List MemberV) (mail : List FlightV) : Con Tryz.prog F.impl_JudgeTexts [.agg [.v (.int .i64 of), .sl false 0 l.length 19 (rowT memberC l), .sl false 0 mail.length 2 (rowT flightC mail)]] (bndF l mail) (.v (.bool (decide (fleetP of l mail ∧ textsP l)))) [] := ⟨fun h => impl_JudgeTexts of l mail h⟩

set_option maxHeartbeats 4000000 in
theorem spec_JudgeTexts (k0 k1 : Nat) (of : Int) (l : List MemberV) (mail : List FlightV) (hpre : bndF l mail) : CallsT Tryz.prog [] F.spec_JudgeTexts [.agg [.v (.int .i64 of), .sl false k0 l.length 19 (rowT memberC l), .sl false k1 mail.length 2 (rowT flightC mail)]] (.v (.bool (decide (fleetP of l mail ∧ textsP l)))) [] := by
  refine fnT C.spec_JudgeTexts ?_
  have hb1 := hpre.1.1.1
  refine run ?_
  refine r_ifd (fun h => ?_) (fun h => ?_)
  · refine run ?_
    exact r_endF fun hp => h hp.1
  have h := Decidable.not_not.1 h
  have hlen := h.2.1
  have hof5 : 1 ≤ of ∧ of ≤ 5 := by have := h.1; unfold ofP at this; omega
  refine run ?_
  refine r_for l.length (fun i => [(1, .ptr 0 [] 0), (3, .v (.int .i64 i))]) (fun _ => [⟨0, true, [.v (.int .i64 of), .sl false k0 l.length 19 (rowT memberC l), .sl false k1 mail.length 2 (rowT flightC mail)]⟩]) (fun i => ∀ i', i' < i → (nth l (i' : Nat)).up = true → hasAll (nth l (i' : Nat))) [0] [] all_0 Gc.of (fun i hi hv => ?_) (fun hv => ?_)
  · have hm := bnd_at hpre.1 hi
    have hbr : bndRoll (nth l (i : Nat)).roll.rels (nth l (i : Nat)).roll.order ∧ totRoll (nth l (i : Nat)).roll.rels (nth l (i : Nat)).roll.order ≤ 1048576 := ⟨hm.2.2.1, (sizes_at hpre.2 hi).2⟩
    have hbh : bndHS (nth l (i : Nat)).helds ∧ totHS (nth l (i : Nat)).helds ≤ 1048576 := ⟨hm.2.2.2, held_at hpre.2 hi⟩
    have hbh1 : (nth l (i : Nat)).helds.length ≤ 2513169434916 := hbh.1.1
    have ho : (nth l (i : Nat)).roll.order.length * 8 ≤ 140737488351232 := hbr.1.2
    refine run ?_
    by_cases hup : (nth l (i : Nat)).up = true
    · refine r_for (nth l (i : Nat)).roll.order.length (fun j => [(1, .ptr 0 [] 0), (3, .v (.int .i64 i)), (4, .ptr 1 [] 0), (5, .v (.int .i64 j))]) (fun _ => [⟨0, true, [.v (.int .i64 of), .sl false k0 l.length 19 (rowT memberC l), .sl false k1 mail.length 2 (rowT flightC mail)]⟩, ⟨0, true, memberK k0 (nth l (i : Nat))⟩]) (fun j => ∀ j', j' < j → hasM (nth l (i : Nat)) (nth (nth l (i : Nat)).roll.order (j' : Nat))) [0, 1] [] all_0 Gc.of (fun j hj hw => ?_) (fun hw => ?_)
      · have hfb := find_b (nth l (i : Nat)).helds (nth (nth l (i : Nat)).roll.order (j : Nat))
        have hro := rel_found (up_roll h hi hup) hj
        refine run ?_
        refine r_ifd (fun h2 => ?_) (fun h2 => absurd (And.intro (Int.ofNat_lt.2 hj) hup) h2)
        refine runC ?_
        refine r_callc ?_
        refine runC ?_
        refine r_callc ?_ (hp := dr_still)
        refine runC ?_
        refine r_do ?_ (hp := dr_chainc)
        refine run ?_
        have hq : hasM (nth l (i : Nat)) (nth (nth l (i : Nat)).roll.order (j : Nat)) ↔ relOk (nth l (i : Nat)).roll.of (nth l (i : Nat)).roll.rels (nth l (i : Nat)).roll.act (nth l (i : Nat)).roll.order (nth (nth l (i : Nat)).roll.order (j : Nat)) ∧ textOk (nth l (i : Nat)).helds (nth (nth l (i : Nat)).roll.order (j : Nat)) ∧ (nth (nth l (i : Nat)).helds (findH (nth l (i : Nat)).helds (nth (nth l (i : Nat)).roll.order (j : Nat)))).size = (relF (nth l (i : Nat)).roll.of (nth l (i : Nat)).roll.rels (nth l (i : Nat)).roll.act (nth l (i : Nat)).roll.order (nth (nth l (i : Nat)).roll.order (j : Nat))).size ∧ (nth (nth l (i : Nat)).helds (findH (nth l (i : Nat)).helds (nth (nth l (i : Nat)).roll.order (j : Nat)))).dig = (relF (nth l (i : Nat)).roll.of (nth l (i : Nat)).roll.rels (nth l (i : Nat)).roll.act (nth l (i : Nat)).roll.order (nth (nth l (i : Nat)).roll.order (j : Nat))).dig := Iff.rfl
        refine r_ifd (fun h3 => ?_) (fun h3 => ?_)
        · refine run ?_
          refine r_endF fun hp => ?_
          have := hq.1 (hp.2 i hi hup j hj)
          have hn := text_nn this.2.1
          grind
        · refine run ?_
          refine ⟨[0, 1], [], Gc.of, all_step hw (hq.2 ⟨hro, ?_⟩)⟩
          grind
      · refine run ?_
        exact ⟨[0], [], Gc.of, all_step hv fun _ => hw⟩
    · refine r_for 0 (fun _ => [(1, .ptr 0 [] 0), (3, .v (.int .i64 i)), (4, .ptr 1 [] 0), (5, .v (.int .i64 0))]) (fun _ => [⟨0, true, [.v (.int .i64 of), .sl false k0 l.length 19 (rowT memberC l), .sl false k1 mail.length 2 (rowT flightC mail)]⟩, ⟨0, true, memberK k0 (nth l (i : Nat))⟩]) (fun _ => True) [0, 1] [] trivial Gc.of (fun j hj _ => absurd hj (Nat.not_lt_zero _)) (fun _ => ?_)
      refine run ?_
      refine r_ifd (fun h2 => ?_) (fun h2 => ?_)
      · exact absurd h2.2 hup
      · refine run ?_
        exact ⟨[0], [], Gc.of, all_step hv fun a => absurd a hup⟩
  · refine run ?_
    exact r_endT ⟨h, hv⟩
instance (k0 k1 : Nat) (of : Int) (l : List MemberV) (mail : List FlightV) : Con Tryz.prog F.spec_JudgeTexts [.agg [.v (.int .i64 of), .sl false k0 l.length 19 (rowT memberC l), .sl false k1 mail.length 2 (rowT flightC mail)]] (bndF l mail) (.v (.bool (decide (fleetP of l mail ∧ textsP l)))) [] := ⟨fun h => spec_JudgeTexts k0 k1 of l mail h⟩

end Go.TL
