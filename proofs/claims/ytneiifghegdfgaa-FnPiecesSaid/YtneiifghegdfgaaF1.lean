/- Commands, disks, hards: what is right. No conditions but those that are written. -/
import Derived.Test.YtneiifghegdfgaaF0
import Derived.Test.YtneiifghegdfgaaE1
namespace Go.TL
set_option linter.unusedSimpArgs false
open Go.Proofs Go.RowKit
attribute [local irreducible] wpOpsT wpT EndT Ex.seq Ex.block W

/-- What a command must be. -/
def cmdP (k r n z : Int) (d : ByteArray) : Prop :=
  if k = 1 then r = 0 ∧ n = 0 ∧ z = 0 ∧ d = ⟨#[]⟩
  else if k = 2 then (1 ≤ r ∧ r ≤ 1000) ∧ (0 ≤ z ∧ z ≤ 1000) ∧ (d.size : Int) = 32 ∧ n = 0
  else if k = 3 then (1 ≤ r ∧ r ≤ 1000) ∧ (0 ≤ n ∧ n ≤ 4) ∧ z = 0 ∧ d = ⟨#[]⟩
  else if k = 4 ∨ k = 5 then (1 ≤ r ∧ r ≤ 1000) ∧ n = 0 ∧ z = 0 ∧ d = ⟨#[]⟩
  else False
instance (k r n z : Int) (d : ByteArray) : Decidable (cmdP k r n z d) := by unfold cmdP; infer_instance

/-! ### Disks -/
def fileS (f : FileV) : Int := f.safe.size + f.late.size
theorem fileS_nn (f : FileV) : 0 ≤ fileS f := by unfold fileS; omega
def diskS (l : List FileV) : Int := sumI fileS l
theorem diskS_tot (l : List FileV) : diskS l ≤ totFileS l := by
  have : ∀ l : List FileV, sumI fileS l = sumI totFileV l := fun l => rfl
  unfold diskS totFileS
  rw [this]; omega
theorem diskS_take {l : List FileV} {i : Nat} (h : i < l.length) : diskS (l.take i) + ((nth l (i : Nat)).safe.size + (nth l (i : Nat)).late.size) = diskS (l.take (i + 1)) := by
  have := sum_take fileS h
  unfold diskS
  rw [this]; rfl
theorem diskS_le (l : List FileV) (i : Nat) : diskS (l.take i) ≤ diskS l := sum_le fileS_nn l i
theorem diskS_nn (l : List FileV) : 0 ≤ diskS l := sum_nn fileS_nn l

set_option maxHeartbeats 4000000 in
theorem impl_sizeOf (k : Nat) (room : Int) (l : List FileV) (hpre : bndFileS l ∧ totFileS l ≤ 1048576) : CallsT Try.prog [] F.impl_sizeOf [.agg [.v (.int .i64 room), .sl false k l.length 3 (rowT fileC l)]] (.v (.int .i64 (diskS l))) [] := by
  refine fnT C.impl_sizeOf ?_
  obtain ⟨⟨hb1, hb2⟩, ht⟩ := hpre
  have hd := diskS_tot l
  refine run ?_
  refine r_for l.length (fun i => [(1, .ptr 0 [] 0), (3, .v (.int .i64 (diskS (l.take i)))), (7, .sl false k l.length 3 (rowT fileC l)), (8, .v (.int .i64 l.length)), (9, .v (.int .i64 i))]) (fun _ => [⟨0, true, [.v (.int .i64 room), .sl false k l.length 3 (rowT fileC l)]⟩]) (fun _ => True) [0] [] trivial Gc.of (fun i hi _ => ?_) (fun _ => ?_)
  · have h1 := diskS_take hi
    have h2 := diskS_le l (i + 1)
    have h3 := diskS_nn (l.take i)
    refine run ?_
    rw [h1]
    exact ⟨[0], [], Gc.of, trivial⟩
  · rw [List.take_length]
    refine run ?_
    exact r_end [] []
instance (k : Nat) (room : Int) (l : List FileV) : Con Try.prog F.impl_sizeOf [.agg [.v (.int .i64 room), .sl false k l.length 3 (rowT fileC l)]] (bndFileS l ∧ totFileS l ≤ 1048576) (.v (.int .i64 (diskS l))) [] := ⟨fun h => impl_sizeOf k room l h⟩

set_option maxHeartbeats 4000000 in
theorem spec_l3Size (k : Nat) (room : Int) (l : List FileV) (hpre : bndFileS l ∧ totFileS l ≤ 1048576) : CallsT Try.prog [] F.spec_l3Size [.agg [.v (.int .i64 room), .sl false k l.length 3 (rowT fileC l)]] (.v (.int .i64 (diskS l))) [] := by
  refine fnT C.spec_l3Size ?_
  obtain ⟨⟨hb1, hb2⟩, ht⟩ := hpre
  have hd := diskS_tot l
  refine run ?_
  refine r_for l.length (fun i => [(1, .ptr 0 [] 0), (3, .v (.int .i64 (diskS (l.take i)))), (4, .v (.int .i64 i))]) (fun _ => [⟨0, true, [.v (.int .i64 room), .sl false k l.length 3 (rowT fileC l)]⟩]) (fun _ => True) [0] [] trivial Gc.of (fun i hi _ => ?_) (fun _ => ?_)
  · have h1 := diskS_take hi
    have h2 := diskS_le l (i + 1)
    have h3 := diskS_nn (l.take i)
    refine run ?_
    rw [show diskS (l.take i) + (nth l (i : Nat)).safe.size + (nth l (i : Nat)).late.size = diskS (l.take (i + 1)) by omega]
    exact ⟨[0], [], Gc.of, trivial⟩
  · rw [List.take_length]
    refine run ?_
    exact r_end [] []
instance (k : Nat) (room : Int) (l : List FileV) : Con Try.prog F.spec_l3Size [.agg [.v (.int .i64 room), .sl false k l.length 3 (rowT fileC l)]] (bndFileS l ∧ totFileS l ≤ 1048576) (.v (.int .i64 (diskS l))) [] := ⟨fun h => spec_l3Size k room l h⟩

def fileP (l : List FileV) (i : Nat) : Prop := (0 ≤ (nth l (i : Nat)).name ∧ (nth l (i : Nat)).name ≤ 7) ∧ ¬ ((0 : Int) < i ∧ (nth l (i : Nat)).name ≤ (nth l ((i : Int) - 1)).name)
instance (l : List FileV) (i : Nat) : Decidable (fileP l i) := inferInstanceAs (Decidable (_ ∧ _))
/-- What a disk must be. -/
def diskP (room : Int) (l : List FileV) : Prop := (0 ≤ room ∧ room ≤ 40000) ∧ diskS l ≤ room ∧ ∀ i, i < l.length → fileP l i
instance (room : Int) (l : List FileV) : Decidable (diskP room l) := inferInstanceAs (Decidable (_ ∧ _))
theorem fileP_len {l : List FileV} (h : ∀ i, i < l.length → fileP l i) : l.length ≤ 8 := by
  have key : ∀ i, i < l.length → (i : Int) ≤ (nth l (i : Nat)).name := by
    intro i
    induction i with
    | zero => intro hi; have := (h 0 hi).1.1; omega
    | succ i ih =>
      intro hi
      have h1 := ih (by omega)
      have h2 := (h (i + 1) hi).2
      rw [show (((i + 1 : Nat) : Int) - 1) = (i : Nat) by omega] at h2
      omega
  rcases Nat.lt_or_ge 8 l.length with hl | hl
  · have h1 := key 8 hl
    have h2 := (h 8 hl).1.2
    omega
  · exact hl

set_option maxHeartbeats 4000000 in
theorem impl_DiskOk (k : Nat) (room : Int) (l : List FileV) (hpre : bndFileS l ∧ totFileS l ≤ 1048576) : CallsT Try.prog [] F.impl_DiskOk [.agg [.v (.int .i64 room), .sl false k l.length 3 (rowT fileC l)]] (.v (.bool (decide (diskP room l)))) [] := by
  refine fnT C.impl_DiskOk ?_
  have hb1 := hpre.1.1
  refine run ?_
  refine r_for l.length (fun i => [(1, .ptr 0 [] 0), (6, .sl false k l.length 3 (rowT fileC l)), (7, .v (.int .i64 l.length)), (8, .v (.int .i64 i))]) (fun _ => [⟨0, true, [.v (.int .i64 room), .sl false k l.length 3 (rowT fileC l)]⟩]) (fun i => ∀ j, j < i → fileP l j) [0] [] all_0 Gc.of (fun i hi hv => ?_) (fun hv => ?_)
  · refine run ?_
    refine r_ifd (fun h => ?_) (fun h => ?_)
    · refine run ?_
      refine r_endF ?_
      intro hp
      have := hp.2.2 i hi
      unfold fileP at this
      grind
    · refine run ?_
      exact ⟨[0], [], Gc.of, all_step hv (by unfold fileP; grind)⟩
  · refine run ?_
    refine r_endb ?_
    exact ⟨fun h => ⟨h.1, h.2, hv⟩, fun h => ⟨h.1, h.2.1⟩⟩
instance (k : Nat) (room : Int) (l : List FileV) : Con Try.prog F.impl_DiskOk [.agg [.v (.int .i64 room), .sl false k l.length 3 (rowT fileC l)]] (bndFileS l ∧ totFileS l ≤ 1048576) (.v (.bool (decide (diskP room l)))) [] := ⟨fun h => impl_DiskOk k room l h⟩

set_option maxHeartbeats 4000000 in
theorem spec_DiskOk (k : Nat) (room : Int) (l : List FileV) (hpre : bndFileS l ∧ totFileS l ≤ 1048576) : CallsT Try.prog [] F.spec_DiskOk [.agg [.v (.int .i64 room), .sl false k l.length 3 (rowT fileC l)]] (.v (.bool (decide (diskP room l)))) [] := by
  refine fnT C.spec_DiskOk ?_
  have hb1 := hpre.1.1
  refine run ?_
  refine r_ifd (fun h => ?_) (fun h => ?_)
  · refine run ?_
    refine r_endF ?_
    intro hp
    have h1 := fileP_len hp.2.2
    have h2 := hp.1
    have h3 := hp.2.1
    omega
  refine run ?_
  refine r_for l.length (fun i => [(1, .ptr 0 [] 0), (3, .v (.int .i64 i))]) (fun _ => [⟨0, true, [.v (.int .i64 room), .sl false k l.length 3 (rowT fileC l)]⟩]) (fun i => ∀ j, j < i → fileP l j) [0] [] all_0 Gc.of (fun i hi hv => ?_) (fun hv => ?_)
  · refine run ?_
    refine r_ifd (fun h => ?_) (fun h => ?_)
    · refine run ?_
      refine r_endF ?_
      intro hp
      have := hp.2.2 i hi
      unfold fileP at this
      grind
    · refine run ?_
      exact ⟨[0], [], Gc.of, all_step hv (by unfold fileP; grind)⟩
  · refine run ?_
    exact r_endT ⟨by omega, by omega, hv⟩
instance (k : Nat) (room : Int) (l : List FileV) : Con Try.prog F.spec_DiskOk [.agg [.v (.int .i64 room), .sl false k l.length 3 (rowT fileC l)]] (bndFileS l ∧ totFileS l ≤ 1048576) (.v (.bool (decide (diskP room l)))) [] := ⟨fun h => spec_DiskOk k room l h⟩

/-! ### Hards -/
def lastT (l : List EntryV) : Int := if (l.length : Int) = 0 then 0 else (nth l ((l.length : Int) - 1)).term

theorem lastT_take {l : List EntryV} {i : Nat} (h : i < l.length) : lastT (l.take i) = if i = 0 then 0 else (nth l ((i : Int) - 1)).term := by
  have e : (l.take i).length = i := by rw [List.length_take]; omega
  unfold lastT
  rw [e]
  by_cases h0 : i = 0
  · simp [h0]
  · rw [if_neg (by omega), if_neg h0]
    unfold nth
    rw [List.getD_eq_getElem?_getD, List.getElem?_take_of_lt (by omega), List.getD_eq_getElem?_getD]

def entP (term : Int) (l : List EntryV) (i : Nat) : Prop := cmdP (nth l (i : Nat)).cmd.kind (nth l (i : Nat)).cmd.rel (nth l (i : Nat)).cmd.node (nth l (i : Nat)).cmd.size (nth l (i : Nat)).cmd.dig ∧ (1 ≤ (nth l (i : Nat)).term ∧ (nth l (i : Nat)).term ≤ 1000000000) ∧ (nth l (i : Nat)).term ≤ term ∧ ¬ ((0 : Int) < i ∧ (nth l (i : Nat)).term < (nth l ((i : Int) - 1)).term)
instance (term : Int) (l : List EntryV) (i : Nat) : Decidable (entP term l i) := inferInstanceAs (Decidable (_ ∧ _))
/-- What a hard must be. -/
def hardP (term vote : Int) (l : List EntryV) : Prop := (0 ≤ term ∧ term ≤ 1000000000) ∧ (0 ≤ vote ∧ vote ≤ 5) ∧ (l.length : Int) ≤ 80 ∧ ∀ i, i < l.length → entP term l i
instance (term vote : Int) (l : List EntryV) : Decidable (hardP term vote l) := inferInstanceAs (Decidable (_ ∧ _))
/-- The same, of a term that may be too great. -/
def entQ (term : Int) (l : List EntryV) (i : Nat) : Prop := cmdP (nth l (i : Nat)).cmd.kind (nth l (i : Nat)).cmd.rel (nth l (i : Nat)).cmd.node (nth l (i : Nat)).cmd.size (nth l (i : Nat)).cmd.dig ∧ max 1 (lastT (l.take i)) ≤ (nth l (i : Nat)).term ∧ (nth l (i : Nat)).term ≤ term
theorem entQ_P {term : Int} {l : List EntryV} {i : Nat} (hi : i < l.length) (ht : term ≤ 1000000000) : entQ term l i ↔ entP term l i := by
  unfold entQ entP
  rw [lastT_take hi]
  by_cases h0 : i = 0
  · subst h0
    simp only [if_true, Int.cast_ofNat_Int, Int.lt_irrefl, false_and, not_false_eq_true, and_true]
    constructor
    · rintro ⟨h1, h2, h3⟩; exact ⟨h1, ⟨by omega, by omega⟩, h3⟩
    · rintro ⟨h1, h2, h3⟩; exact ⟨h1, by omega, h3⟩
  · rw [if_neg h0]
    constructor
    · rintro ⟨h1, h2, h3⟩; exact ⟨h1, ⟨by omega, by omega⟩, h3, by omega⟩
    · rintro ⟨h1, h2, h3, h4⟩; exact ⟨h1, by omega, h3⟩

end Go.TL
