/- New parcels. No conditions but those that are written. -/
import Derived.Test.YtneiifghegdfgaaA3
import Derived.Test.YtneiifghegdfgaaN1
namespace Go.TL
set_option linter.unusedSimpArgs false
open Go.Proofs Go.RowKit
attribute [local irreducible] wpOpsT wpT EndT Ex.seq Ex.block W

structure ParcelV where
  size : Int
  dig : ByteArray
  parts : List ByteArray
def newOk (sz : Int) (d : ByteArray) : Prop := (0 ≤ sz ∧ sz ≤ 1000) ∧ d.size = 32
instance (sz : Int) (d : ByteArray) : Decidable (newOk sz d) := inferInstanceAs (Decidable (_ ∧ _))
def newP (sz : Int) (d : ByteArray) : ParcelV := if newOk sz d then ⟨sz, d, List.replicate (partsN sz).toNat ⟨#[]⟩⟩ else ⟨0, ⟨#[]⟩, []⟩

theorem new_parcel (sz : Int) (d : ByteArray) : parcelP sz d (List.replicate (max (partsN sz) 0).toNat ⟨#[]⟩) ↔ newOk sz d := by
  unfold parcelP newOk
  constructor
  · intro h; exact ⟨h.1, h.2.1⟩
  · intro h
    refine ⟨h.1, h.2, ?_, fun i hi => .inl ?_⟩
    · have : 0 ≤ partsN sz := by unfold partsN; rw [if_pos h.1]; omega
      rw [List.length_replicate]; omega
    · rw [nth_nat hi, List.getElem_replicate]

set_option maxHeartbeats 4000000 in
theorem impl_ParcelNew (sz : Int) (d : ByteArray) : CallsT Try.prog [] F.impl_ParcelNew [.v (.int .i64 sz), .v (.string d)] (.tup [.agg [.v (.int .i64 ((newP sz d).size)), .v (.string ((newP sz d).dig)), .sl false 0 (newP sz d).parts.length 1 (rowT strC (newP sz d).parts)], .v (.bool (decide (newOk sz d)))]) [] := by
  refine fnT C.impl_ParcelNew ?_
  have hb := partsN_b sz
  refine run ?_
  refine r_ifd (fun h => ?_) (fun h => ?_)
  · rw [new_parcel] at h
    rw [show newP sz d = ⟨0, ⟨#[]⟩, []⟩ from if_neg h]
    refine run ?_
    exact r_end [] []
  · rw [new_parcel, Decidable.not_not] at h
    have hp : 0 ≤ partsN sz := by have := h.1; unfold partsN; rw [if_pos h.1]; omega
    rw [show newP sz d = ⟨sz, d, List.replicate (max (partsN sz) 0).toNat ⟨#[]⟩⟩ by rw [show max (partsN sz) 0 = partsN sz by omega]; exact if_pos h]
    refine run ?_
    exact r_end [] [1]
instance (sz : Int) (d : ByteArray) : Con Try.prog F.impl_ParcelNew [.v (.int .i64 sz), .v (.string d)] True (.tup [.agg [.v (.int .i64 ((newP sz d).size)), .v (.string ((newP sz d).dig)), .sl false 0 (newP sz d).parts.length 1 (rowT strC (newP sz d).parts)], .v (.bool (decide (newOk sz d)))]) [] := ⟨fun _ => impl_ParcelNew sz d⟩

/-- The part's cell and root while a new parcel grows. -/
def npC : Nat → T
  | 0 => .v (.slice none 0 0)
  | i + 1 => .ref 2 [] 0 (List.replicate (i + 1) (⟨#[]⟩ : ByteArray)).length
def npR : Nat → Store
  | 0 => []
  | i + 1 => [⟨1, true, rowT strC (List.replicate (i + 1) ⟨#[]⟩)⟩]
attribute [go_sem] npC npR

set_option maxHeartbeats 4000000 in
theorem spec_ParcelNew (sz : Int) (d : ByteArray) : CallsT Try.prog [] F.spec_ParcelNew [.v (.int .i64 sz), .v (.string d)] (.tup [.agg [.v (.int .i64 ((newP sz d).size)), .v (.string ((newP sz d).dig)), .sl false 0 (newP sz d).parts.length 1 (rowT strC (newP sz d).parts)], .v (.bool (decide (newOk sz d)))]) [] := by
  refine fnT C.spec_ParcelNew ?_
  have hb := partsN_b sz
  refine run ?_
  refine r_for (partsN sz).toNat (fun i => [(0, .v (.int .i64 sz)), (4, .ptr 0 [] 0), (6, .ptr 1 [] 0), (7, .v (.int .i64 i))]) (fun i => ⟨0, true, [.v (.int .i64 0), .v (.string (⟨#[]⟩)), .v (.slice none 0 0)]⟩ :: ⟨0, true, [.v (.int .i64 sz), .v (.string d), npC i]⟩ :: npR i) (fun _ => True) [0, 1] [] trivial Gc.of (fun i hi _ => ?_) (fun _ => ?_)
  · rcases i with _ | i
    · refine run ?_
      exact ⟨[0, 1, 3], [], Gc.of, trivial⟩
    · show wpT _ _ _ _ _ _ [⟨0, true, [.v (.int .i64 0), .v (.string (⟨#[]⟩)), .v (.slice none 0 0)]⟩, ⟨0, true, [.v (.int .i64 sz), .v (.string d), .ref 2 [] 0 (List.replicate (i + 1) (⟨#[]⟩ : ByteArray)).length]⟩, ⟨1, true, rowT strC (List.replicate (i + 1) ⟨#[]⟩)⟩]
      refine run ?_
      rw [← List.replicate_succ']
      exact ⟨[0, 1, 4], [], Gc.of, trivial⟩
  · have hnp := new_parcel sz d
    have hmx : (max (partsN sz) 0).toNat = (partsN sz).toNat := by omega
    rw [hmx] at hnp
    generalize hn : (partsN sz).toNat = n at hnp ⊢
    rcases n with _ | n
    · refine run ?_
      refine r_callp true (spec_ParcelOk 1 sz d [] (by simp)) (ts1 := [.agg [.v (.int .i64 sz), .v (.string d), .sl false 0 0 1 []]]) ?_
      refine run ?_
      refine r_ifd (fun h => ?_) (fun h => ?_)
      · rw [show newP sz d = ⟨0, ⟨#[]⟩, []⟩ from if_neg fun hh => h (hnp.2 hh)]
        have h := fun hh => h (hnp.2 hh)
        refine run ?_
        exact r_end [] []
      · have h := hnp.1 (Decidable.not_not.1 h)
        rw [show newP sz d = ⟨sz, d, []⟩ from (if_pos h).trans (by rw [hn]; rfl)]
        refine run ?_
        exact r_end [] []
    · show wpT _ _ _ _ _ _ [⟨0, true, [.v (.int .i64 0), .v (.string (⟨#[]⟩)), .v (.slice none 0 0)]⟩, ⟨0, true, [.v (.int .i64 sz), .v (.string d), .ref 2 [] 0 (List.replicate (n + 1) (⟨#[]⟩ : ByteArray)).length]⟩, ⟨1, true, rowT strC (List.replicate (n + 1) ⟨#[]⟩)⟩]
      refine run ?_
      refine r_ifd (fun h => ?_) (fun h => ?_)
      · rw [show newP sz d = ⟨0, ⟨#[]⟩, []⟩ from if_neg fun hh => h (hnp.2 hh)]
        have h := fun hh => h (hnp.2 hh)
        refine run ?_
        exact r_end [] []
      · have h := hnp.1 (Decidable.not_not.1 h)
        rw [show newP sz d = ⟨sz, d, List.replicate (n + 1) ⟨#[]⟩⟩ from (if_pos h).trans (by rw [hn])]
        refine run ?_
        exact r_end [] [2]
instance (sz : Int) (d : ByteArray) : Con Try.prog F.spec_ParcelNew [.v (.int .i64 sz), .v (.string d)] True (.tup [.agg [.v (.int .i64 ((newP sz d).size)), .v (.string ((newP sz d).dig)), .sl false 0 (newP sz d).parts.length 1 (rowT strC (newP sz d).parts)], .v (.bool (decide (newOk sz d)))]) [] := ⟨fun _ => spec_ParcelNew sz d⟩

/-- A piece that tells a new parcel. -/
def pieceNewB (r sz : Int) (d : ByteArray) : ByteArray := if newOk sz d ∧ 1 ≤ r ∧ r ≤ 1000 then strOfT ([1, r, sz].flatMap (putNumL 10)) ++ d else ⟨#[]⟩

set_option maxHeartbeats 4000000 in
theorem impl_PieceNew (r sz : Int) (d : ByteArray) (hpre : d.size ≤ 140737488351232) : CallsT Try.prog [] F.impl_PieceNew [.v (.int .i64 r), .v (.int .i64 sz), .v (.string d)] (.v (.string (pieceNewB r sz d))) [] := by
  refine fnT C.impl_PieceNew ?_
  refine run ?_
  refine r_ifd (fun h => ?_) (fun h => ?_)
  · rw [show pieceNewB r sz d = ⟨#[]⟩ from if_neg fun hh => h.elim (fun k => k hh.1) (fun k => k hh.2)]
    refine run ?_
    exact r_end [] []
  · have h1 : newOk sz d ∧ 1 ≤ r ∧ r ≤ 1000 := by grind
    rw [show pieceNewB r sz d = strOfT ([1, r, sz].flatMap (putNumL 10)) ++ d from if_pos h1]
    have hsz : 0 ≤ sz ∧ sz ≤ 1000 := h1.1.1
    have hn := nums_len [1, r, sz]
    have hs := strOf_size ([1, r, sz].flatMap (putNumL 10))
    simp only [List.length_cons, List.length_nil] at hn
    refine run ?_
    refine r_callp true (impl_putNums [1, r, sz] 1 ⟨by intro x hx; simp only [List.mem_cons, List.not_mem_nil, or_false] at hx; omega, by simp⟩) ?_
    refine run ?_
    exact r_end [] []
instance (r sz : Int) (d : ByteArray) : Con Try.prog F.impl_PieceNew [.v (.int .i64 r), .v (.int .i64 sz), .v (.string d)] (d.size ≤ 140737488351232) (.v (.string (pieceNewB r sz d))) [] := ⟨fun h => impl_PieceNew r sz d h⟩

end Go.TL
