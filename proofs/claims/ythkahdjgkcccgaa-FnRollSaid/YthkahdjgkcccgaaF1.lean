/- Commands, disks, hards: what is right. No conditions but those that are written. -/
import Derived.Test.YthkahdjgkcccgaaF0
import Derived.Test.YthkahdjgkcccgaaE1
namespace Go.TL
set_option linter.unusedSimpArgs false
open Go.Proofs Go.RowKit
attribute [local irreducible] wpOpsT wpT EndT Ex.seq Ex.block W

/-- What a command must be. -/
def cmdP (k r n z : Int) (d : ByteArray) : Prop :=
  if k = 1 then r = 0 ∧ n = 0 ∧ z = 0 ∧ d = ⟨#[]⟩
  else if k = 2 then (1 ≤ r ∧ r ≤ 1000) ∧ (0 ≤ z ∧ z ≤ 1000) ∧ (d.size : Int) = 32 ∧ n = 0
  else if k = 3 then (1 ≤ r ∧ r ≤ 1000) ∧ (0 ≤ n ∧ n ≤ 4) ∧ z = 0 ∧ d = ⟨#[]⟩
  else if k = 4 ∨ k = 5 then (1 ≤ r ∧ r ≤ 1000) ∧ n = 0 ∧ z = 0 ∧ d = ⟨#[]⟩
  else False
instance (k r n z : Int) (d : ByteArray) : Decidable (cmdP k r n z d) := by unfold cmdP; infer_instance

set_option maxHeartbeats 4000000 in
theorem impl_CmdOk (k r n z : Int) (d : ByteArray) : CallsT Try.prog [] F.impl_CmdOk [.agg [.v (.int .i64 k), .v (.int .i64 r), .v (.int .i64 n), .v (.int .i64 z), .v (.string d)]] (.v (.bool (decide (cmdP k r n z d)))) [] := by
  refine fnT C.impl_CmdOk ?_
  repeat' (refine run ?_; first | refine r_ifd (fun _ => ?_) (fun _ => ?_) | refine r_endb ?_ | refine r_endT ?_ | refine r_endF ?_)
  all_goals (unfold cmdP; grind)
instance (k r n z : Int) (d : ByteArray) : Con Try.prog F.impl_CmdOk [.agg [.v (.int .i64 k), .v (.int .i64 r), .v (.int .i64 n), .v (.int .i64 z), .v (.string d)]] True (.v (.bool (decide (cmdP k r n z d)))) [] := ⟨fun _ => impl_CmdOk k r n z d⟩

set_option maxHeartbeats 4000000 in
theorem spec_CmdOk (k r n z : Int) (d : ByteArray) : CallsT Try.prog [] F.spec_CmdOk [.agg [.v (.int .i64 k), .v (.int .i64 r), .v (.int .i64 n), .v (.int .i64 z), .v (.string d)]] (.v (.bool (decide (cmdP k r n z d)))) [] := by
  refine fnT C.spec_CmdOk ?_
  repeat' (refine run ?_; first | refine r_ifd (fun _ => ?_) (fun _ => ?_) | refine r_endb ?_ | refine r_endT ?_ | refine r_endF ?_)
  all_goals (unfold cmdP; grind)
instance (k r n z : Int) (d : ByteArray) : Con Try.prog F.spec_CmdOk [.agg [.v (.int .i64 k), .v (.int .i64 r), .v (.int .i64 n), .v (.int .i64 z), .v (.string d)]] True (.v (.bool (decide (cmdP k r n z d)))) [] := ⟨fun _ => spec_CmdOk k r n z d⟩

set_option maxHeartbeats 4000000 in
theorem spec_l6Entry (t k r n z : Int) (d : ByteArray) : CallsT Try.prog [] F.spec_l6Entry [.agg [.v (.int .i64 t), .v (.int .i64 k), .v (.int .i64 r), .v (.int .i64 n), .v (.int .i64 z), .v (.string d)]] (.v (.bool (decide ((1 ≤ t ∧ t ≤ 1000000000) ∧ cmdP k r n z d)))) [] := by
  refine fnT C.spec_l6Entry ?_
  refine run ?_
  exact r_end [] []
instance (t k r n z : Int) (d : ByteArray) : Con Try.prog F.spec_l6Entry [.agg [.v (.int .i64 t), .v (.int .i64 k), .v (.int .i64 r), .v (.int .i64 n), .v (.int .i64 z), .v (.string d)]] True (.v (.bool (decide ((1 ≤ t ∧ t ≤ 1000000000) ∧ cmdP k r n z d)))) [] := ⟨fun _ => spec_l6Entry t k r n z d⟩

/-! ### Disks -/
def fileS (f : FileV) : Int := f.safe.size + f.late.size
theorem fileS_nn (f : FileV) : 0 ≤ fileS f := by unfold fileS; omega
def diskS (l : List FileV) : Int := sumI fileS l
theorem diskS_tot (l : List FileV) : diskS l ≤ totFileS l := by
  have : ∀ l : List FileV, sumI fileS l = sumI totFileV l := fun l => rfl
  unfold diskS totFileS
  rw [this]; omega
theorem diskS_take {l : List FileV} {i : Nat} (h : i < l.length) : diskS (l.take i) + ((nth l (i : Nat)).safe.size + (nth l (i : Nat)).late.size) = diskS (l.take (i + 1)) := by
  have := sum_take fileS h
  unfold diskS
  rw [this]; rfl
theorem diskS_le (l : List FileV) (i : Nat) : diskS (l.take i) ≤ diskS l := sum_le fileS_nn l i
theorem diskS_nn (l : List FileV) : 0 ≤ diskS l := sum_nn fileS_nn l

def fileP (l : List FileV) (i : Nat) : Prop := (0 ≤ (nth l (i : Nat)).name ∧ (nth l (i : Nat)).name ≤ 7) ∧ ¬ ((0 : Int) < i ∧ (nth l (i : Nat)).name ≤ (nth l ((i : Int) - 1)).name)
instance (l : List FileV) (i : Nat) : Decidable (fileP l i) := inferInstanceAs (Decidable (_ ∧ _))
/-- What a disk must be. -/
def diskP (room : Int) (l : List FileV) : Prop := (0 ≤ room ∧ room ≤ 40000) ∧ diskS l ≤ room ∧ ∀ i, i < l.length → fileP l i
instance (room : Int) (l : List FileV) : Decidable (diskP room l) := inferInstanceAs (Decidable (_ ∧ _))
theorem fileP_len {l : List FileV} (h : ∀ i, i < l.length → fileP l i) : l.length ≤ 8 := by
  have key : ∀ i, i < l.length → (i : Int) ≤ (nth l (i : Nat)).name := by
    intro i
    induction i with
    | zero => intro hi; have := (h 0 hi).1.1; omega
    | succ i ih =>
      intro hi
      have h1 := ih (by omega)
      have h2 := (h (i + 1) hi).2
      rw [show (((i + 1 : Nat) : Int) - 1) = (i : Nat) by omega] at h2
      omega
  rcases Nat.lt_or_ge 8 l.length with hl | hl
  · have h1 := key 8 hl
    have h2 := (h 8 hl).1.2
    omega
  · exact hl

/-! ### Hards -/
def lastT (l : List EntryV) : Int := if (l.length : Int) = 0 then 0 else (nth l ((l.length : Int) - 1)).term

set_option maxHeartbeats 4000000 in
theorem impl_lastTerm (k : Nat) (l : List EntryV) (hpre : l.length ≤ 140737488351232) : CallsT Try.prog [] F.impl_lastTerm [.sl false k l.length 6 (rowT entryC l)] (.v (.int .i64 (lastT l))) [] := by
  refine fnT C.impl_lastTerm ?_
  refine run ?_
  refine r_ifd (fun h => ?_) (fun h => ?_)
  · rw [show lastT l = 0 from if_pos h]
    refine run ?_
    exact r_end [] []
  · rw [show lastT l = (nth l ((l.length : Int) - 1)).term from if_neg h]
    refine run ?_
    exact r_end [] []
theorem lastT_take {l : List EntryV} {i : Nat} (h : i < l.length) : lastT (l.take i) = if i = 0 then 0 else (nth l ((i : Int) - 1)).term := by
  have e : (l.take i).length = i := by rw [List.length_take]; omega
  unfold lastT
  rw [e]
  by_cases h0 : i = 0
  · simp [h0]
  · rw [if_neg (by omega), if_neg h0]
    unfold nth
    rw [List.getD_eq_getElem?_getD, List.getElem?_take_of_lt (by omega), List.getD_eq_getElem?_getD]
instance (k : Nat) (l : List EntryV) : Con Try.prog F.impl_lastTerm [.sl false k l.length 6 (rowT entryC l)] (l.length ≤ 140737488351232) (.v (.int .i64 (lastT l))) [] := ⟨fun h => impl_lastTerm k l h⟩

def entP (term : Int) (l : List EntryV) (i : Nat) : Prop := cmdP (nth l (i : Nat)).cmd.kind (nth l (i : Nat)).cmd.rel (nth l (i : Nat)).cmd.node (nth l (i : Nat)).cmd.size (nth l (i : Nat)).cmd.dig ∧ (1 ≤ (nth l (i : Nat)).term ∧ (nth l (i : Nat)).term ≤ 1000000000) ∧ (nth l (i : Nat)).term ≤ term ∧ ¬ ((0 : Int) < i ∧ (nth l (i : Nat)).term < (nth l ((i : Int) - 1)).term)
instance (term : Int) (l : List EntryV) (i : Nat) : Decidable (entP term l i) := inferInstanceAs (Decidable (_ ∧ _))
/-- What a hard must be. -/
def hardP (term vote : Int) (l : List EntryV) : Prop := (0 ≤ term ∧ term ≤ 1000000000) ∧ (0 ≤ vote ∧ vote ≤ 5) ∧ (l.length : Int) ≤ 80 ∧ ∀ i, i < l.length → entP term l i
instance (term vote : Int) (l : List EntryV) : Decidable (hardP term vote l) := inferInstanceAs (Decidable (_ ∧ _))
/-- The same, of a term that may be too great. -/
def entQ (term : Int) (l : List EntryV) (i : Nat) : Prop := cmdP (nth l (i : Nat)).cmd.kind (nth l (i : Nat)).cmd.rel (nth l (i : Nat)).cmd.node (nth l (i : Nat)).cmd.size (nth l (i : Nat)).cmd.dig ∧ max 1 (lastT (l.take i)) ≤ (nth l (i : Nat)).term ∧ (nth l (i : Nat)).term ≤ term
theorem entQ_P {term : Int} {l : List EntryV} {i : Nat} (hi : i < l.length) (ht : term ≤ 1000000000) : entQ term l i ↔ entP term l i := by
  unfold entQ entP
  rw [lastT_take hi]
  by_cases h0 : i = 0
  · subst h0
    simp only [if_true, Int.cast_ofNat_Int, Int.lt_irrefl, false_and, not_false_eq_true, and_true]
    constructor
    · rintro ⟨h1, h2, h3⟩; exact ⟨h1, ⟨by omega, by omega⟩, h3⟩
    · rintro ⟨h1, h2, h3⟩; exact ⟨h1, by omega, h3⟩
  · rw [if_neg h0]
    constructor
    · rintro ⟨h1, h2, h3⟩; exact ⟨h1, ⟨by omega, by omega⟩, h3, by omega⟩
    · rintro ⟨h1, h2, h3, h4⟩; exact ⟨h1, by omega, h3⟩

set_option maxHeartbeats 4000000 in
theorem impl_HardOk (k : Nat) (term vote : Int) (l : List EntryV) (hpre : bndEntryS l) : CallsT Try.prog [] F.impl_HardOk [.agg [.v (.int .i64 term), .v (.int .i64 vote), .sl false k l.length 6 (rowT entryC l)]] (.v (.bool (decide (hardP term vote l)))) [] := by
  refine fnT C.impl_HardOk ?_
  have hb1 := hpre.1
  refine run ?_
  refine r_for l.length (fun i => [(1, .ptr 0 [] 0), (6, .sl false k l.length 6 (rowT entryC l)), (7, .v (.int .i64 l.length)), (8, .v (.int .i64 i))]) (fun _ => [⟨0, true, [.v (.int .i64 term), .v (.int .i64 vote), .sl false k l.length 6 (rowT entryC l)]⟩]) (fun i => ∀ j, j < i → entQ term l j) [0] [] all_0 Gc.of (fun i hi hv => ?_) (fun hv => ?_)
  · have htl : (l.take i).length ≤ 140737488351232 := by rw [List.length_take]; omega
    refine run ?_
    refine r_ifd (fun h => ?_) (fun h => ?_)
    · refine run ?_
      refine r_endF ?_
      intro hp
      have := (entQ_P hi hp.1.2).2 (hp.2.2.2 i hi)
      unfold entQ at this
      grind
    · refine run ?_
      exact ⟨[0], [], Gc.of, all_step hv (by unfold entQ; grind)⟩
  · refine run ?_
    refine r_endb ?_
    exact ⟨fun h => ⟨by omega, by omega, by omega, fun i hi => (entQ_P hi (by omega)).1 (hv i hi)⟩, fun h => ⟨⟨h.1, h.2.1⟩, h.2.2.1⟩⟩
instance (k : Nat) (term vote : Int) (l : List EntryV) : Con Try.prog F.impl_HardOk [.agg [.v (.int .i64 term), .v (.int .i64 vote), .sl false k l.length 6 (rowT entryC l)]] (bndEntryS l) (.v (.bool (decide (hardP term vote l)))) [] := ⟨fun h => impl_HardOk k term vote l h⟩

set_option maxHeartbeats 4000000 in
theorem spec_HardOk (k : Nat) (term vote : Int) (l : List EntryV) (hpre : bndEntryS l) : CallsT Try.prog [] F.spec_HardOk [.agg [.v (.int .i64 term), .v (.int .i64 vote), .sl false k l.length 6 (rowT entryC l)]] (.v (.bool (decide (hardP term vote l)))) [] := by
  refine fnT C.spec_HardOk ?_
  have hb1 := hpre.1
  refine run ?_
  refine r_ifd (fun h => ?_) (fun h => ?_)
  · refine run ?_
    refine r_endF ?_
    intro hp
    have h1 := hp.1
    have h2 := hp.2.1
    have h3 := hp.2.2.1
    omega
  refine run ?_
  refine r_for l.length (fun i => [(1, .ptr 0 [] 0), (3, .v (.int .i64 i))]) (fun _ => [⟨0, true, [.v (.int .i64 term), .v (.int .i64 vote), .sl false k l.length 6 (rowT entryC l)]⟩]) (fun i => ∀ j, j < i → entP term l j) [0] [] all_0 Gc.of (fun i hi hv => ?_) (fun hv => ?_)
  · refine run ?_
    refine r_ifd (fun h => ?_) (fun h => ?_)
    · refine run ?_
      refine r_endF ?_
      intro hp
      have := hp.2.2.2 i hi
      unfold entP at this
      grind
    · refine run ?_
      exact ⟨[0], [], Gc.of, all_step hv (by unfold entP; grind)⟩
  · refine run ?_
    exact r_endT ⟨by omega, by omega, by omega, hv⟩
instance (k : Nat) (term vote : Int) (l : List EntryV) : Con Try.prog F.spec_HardOk [.agg [.v (.int .i64 term), .v (.int .i64 vote), .sl false k l.length 6 (rowT entryC l)]] (bndEntryS l) (.v (.bool (decide (hardP term vote l)))) [] := ⟨fun h => spec_HardOk k term vote l h⟩

end Go.TL
