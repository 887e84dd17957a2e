/- The law of zones on trees. No conditions but those that are written. -/
import Derived.Test.YtkecbkljfpebhaaX23
import Derived.Test.YtkecbkljfpebhaaX27
namespace Go.TL
set_option linter.unusedSimpArgs false
open Go.Proofs Go.RowKit
attribute [local irreducible] wpOpsT wpT EndT Ex.seq Ex.block W

set_option linter.unusedSimpArgs false in
set_option maxHeartbeats 16000000 in
set_option maxHeartbeats 4000000 in
theorem laws_FnZones (l : List Int) (hpre : (∀ x ∈ l, 0 ≤ x ∧ x < 256) ∧ l.length ≤ 140737488351232) : CallsT Try.prog [] F.laws_FnZones [.sl false 0 l.length 1 (rowT u8C l)] (.v (.bool true)) [] := by
  refine fnT C.laws_FnZones ?_
  have hl := hpre
  refine run ?_
  refine r_ifd (fun h => ?_) (fun h => ?_)
  · refine run ?_
    exact r_end [] []
  obtain ⟨rules, zones, links, hlen, hd⟩ := drawSourceOk_ex l hl
  refine runC ?_
  refine r_callp false hd ?_
  refine run ?_
  refine r_ifd (fun hs => ?_) (fun hs => ?_)
  · have hz : ¬ ztO rules zones links 65 := fun hh => hs (zt_yes hh).1.1
    have e : decide (¬ ztO rules zones links 65 ∧ ¬ srcP rules zones links) = true := decide_eq_true ⟨hz, hs⟩
    refine run ?_
    rw [e]
    exact r_end [] []
  have hs := Decidable.not_not.1 hs
  refine run ?_
  refine r_for zones.length (fun i => [(0, .sl false 0 l.length 1 (rowT u8C l)), (3, .ptr 0 [] 0), (6, .v (.int .i64 i))]) (fun _ => [⟨0, true, [.sl false 0 rules.length 9 (rowT ruleC rules), .sl false 0 zones.length 3 (rowT zoneC zones), .sl false 0 links.length 2 (rowT linkC links)]⟩]) (fun _ => True) [0] [] trivial Gc.of (fun i hi _ => ?_) (fun _ => ?_)
  · obtain ⟨ho, hv⟩ := zone_self hs hi
    have hab := atX_b hl.1
    have h300 := zt_300 rules zones links (nth zones (i : Nat)).name
    have hyes := fun hh => (zt_yes (rules := rules) (zones := zones) (links := links) (n := (nth zones (i : Nat)).name) hh).2.2
    have hzero := zone_0 ho
    have htp := fun hh => zt_table (rules := rules) (zones := zones) (links := links) (n := (nth zones (i : Nat)).name) hh
    rw [hv] at hyes hzero
    refine runC ?_
    refine r_callc ?_ (hp := dr_still)
    refine runC ?_
    refine r_do ?_ (hp := dr_chainc)
    refine runC ?_
    refine r_callc ?_ (hp := dr_still)
    refine runC ?_
    refine r_do ?_ (hp := dr_chainc)
    refine runC ?_
    refine r_callc ?_ (hp := dr_still)
    refine runC ?_
    refine r_do ?_ (hp := dr_chainc)
    rw [hv, decide_eq_true ho]
    refine run ?_
    refine r_ifd (fun h1 => ?_) (fun _ => ?_)
    · exact absurd (hyes h1.1) h1.2
    refine run ?_
    refine r_ifd (fun h2 => ?_) (fun _ => ?_)
    · exfalso
      obtain ⟨hz, hS⟩ := hzero h2.1
      have hf := hyes hz
      have ht := htp hz
      rw [hS, hf] at h2 ht
      have hta : ∀ m, tabAt (nth zones (i : Nat)).off [] m = (nth zones (i : Nat)).off := fun m => if_pos ht
      rcases h2.2 with (h3 | h3) | h3
      · exact h3 hz
      · exact h3 rfl
      · exact h3 (hta _)
    · refine run ?_
      exact ⟨[0], [], Gc.of, trivial⟩
  · refine run ?_
    exact r_end [] []
instance (l : List Int) : Con Try.prog F.laws_FnZones [.sl false 0 l.length 1 (rowT u8C l)] ((∀ x ∈ l, 0 ≤ x ∧ x < 256) ∧ l.length ≤ 140737488351232) (.v (.bool true)) [] := ⟨fun h => laws_FnZones l h⟩

end Go.TL
