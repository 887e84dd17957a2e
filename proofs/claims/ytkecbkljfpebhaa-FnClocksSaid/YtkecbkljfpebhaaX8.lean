/- Sources that are right, both sides; the zone of a name. No conditions but those that are written. -/
import Derived.Test.YtkecbkljfpebhaaJX6X11
import Derived.Test.YtkecbkljfpebhaaX7
namespace Go.TL
set_option linter.unusedSimpArgs false
open Go.Proofs Go.RowKit
attribute [local irreducible] wpOpsT wpT EndT Ex.seq Ex.block W

set_option maxHeartbeats 4000000 in
theorem impl_isSmall (n : Int) : CallsT Try.prog [] F.impl_isSmall [.v (.int .i64 n)] (.v (.bool (decide (smallP n)))) [] := by
  refine fnT C.impl_isSmall ?_
  refine run ?_
  refine r_endb ?_
  exact Iff.rfl
instance (n : Int) : Con Try.prog F.impl_isSmall [.v (.int .i64 n)] True (.v (.bool (decide (smallP n)))) [] := ⟨fun _ => impl_isSmall n⟩

set_option maxHeartbeats 4000000 in
theorem impl_isGreat (n : Int) : CallsT Try.prog [] F.impl_isGreat [.v (.int .i64 n)] (.v (.bool (decide (greatP n)))) [] := by
  refine fnT C.impl_isGreat ?_
  refine run ?_
  refine r_endb ?_
  exact Iff.rfl
instance (n : Int) : Con Try.prog F.impl_isGreat [.v (.int .i64 n)] True (.v (.bool (decide (greatP n)))) [] := ⟨fun _ => impl_isGreat n⟩

set_option maxHeartbeats 4000000 in
theorem spec_l12Small (n : Int) : CallsT Try.prog [] F.spec_l12Small [.v (.int .i64 n)] (.v (.bool (decide (smallP n)))) [] := by
  refine fnT C.spec_l12Small ?_
  refine run ?_
  refine r_endb ?_
  exact Iff.rfl
instance (n : Int) : Con Try.prog F.spec_l12Small [.v (.int .i64 n)] True (.v (.bool (decide (smallP n)))) [] := ⟨fun _ => spec_l12Small n⟩

set_option maxHeartbeats 4000000 in
theorem spec_l12Great (n : Int) : CallsT Try.prog [] F.spec_l12Great [.v (.int .i64 n)] (.v (.bool (decide (greatP n)))) [] := by
  refine fnT C.spec_l12Great ?_
  refine run ?_
  refine r_endb ?_
  exact Iff.rfl
instance (n : Int) : Con Try.prog F.spec_l12Great [.v (.int .i64 n)] True (.v (.bool (decide (greatP n)))) [] := ⟨fun _ => spec_l12Great n⟩

theorem ruleP_mk (n f t m k d w a s : Int) : ruleP ⟨n, f, t, m, k, d, w, a, s⟩ ↔ smallP n ∧ yearP f ∧ yearP t ∧ f ≤ t ∧ (1 ≤ m ∧ m ≤ 12) ∧ onP k d w ∧ (0 ≤ a ∧ a ≤ 1439) ∧ 0 ≤ s ∧ s ≤ 180 := Iff.rfl
theorem zoneP_mk (n o r : Int) : zoneP ⟨n, o, r⟩ ↔ greatP n ∧ (-900 ≤ o ∧ o ≤ 900) ∧ (r = 0 ∨ smallP r) := Iff.rfl

set_option maxHeartbeats 4000000 in
theorem impl_ruleOk (n f t m k d w a s : Int) : CallsT Try.prog [] F.impl_ruleOk [.agg [.v (.int .i64 n), .v (.int .i64 f), .v (.int .i64 t), .v (.int .i64 m), .v (.int .i64 k), .v (.int .i64 d), .v (.int .i64 w), .v (.int .i64 a), .v (.int .i64 s)]] (.v (.bool (decide (ruleP ⟨n, f, t, m, k, d, w, a, s⟩)))) [] := by
  refine fnT C.impl_ruleOk ?_
  refine run ?_
  refine r_endb ?_
  rw [ruleP_mk]
  grind
instance (n f t m k d w a s : Int) : Con Try.prog F.impl_ruleOk [.agg [.v (.int .i64 n), .v (.int .i64 f), .v (.int .i64 t), .v (.int .i64 m), .v (.int .i64 k), .v (.int .i64 d), .v (.int .i64 w), .v (.int .i64 a), .v (.int .i64 s)]] True (.v (.bool (decide (ruleP ⟨n, f, t, m, k, d, w, a, s⟩)))) [] := ⟨fun _ => impl_ruleOk n f t m k d w a s⟩

set_option maxHeartbeats 4000000 in
theorem spec_l12RuleOk (n f t m k d w a s : Int) : CallsT Try.prog [] F.spec_l12RuleOk [.agg [.v (.int .i64 n), .v (.int .i64 f), .v (.int .i64 t), .v (.int .i64 m), .v (.int .i64 k), .v (.int .i64 d), .v (.int .i64 w), .v (.int .i64 a), .v (.int .i64 s)]] (.v (.bool (decide (ruleP ⟨n, f, t, m, k, d, w, a, s⟩)))) [] := by
  refine fnT C.spec_l12RuleOk ?_
  refine run ?_
  refine r_endb ?_
  rw [ruleP_mk]
  grind
instance (n f t m k d w a s : Int) : Con Try.prog F.spec_l12RuleOk [.agg [.v (.int .i64 n), .v (.int .i64 f), .v (.int .i64 t), .v (.int .i64 m), .v (.int .i64 k), .v (.int .i64 d), .v (.int .i64 w), .v (.int .i64 a), .v (.int .i64 s)]] True (.v (.bool (decide (ruleP ⟨n, f, t, m, k, d, w, a, s⟩)))) [] := ⟨fun _ => spec_l12RuleOk n f t m k d w a s⟩

set_option maxHeartbeats 4000000 in
theorem impl_zoneOk (n o r : Int) : CallsT Try.prog [] F.impl_zoneOk [.agg [.v (.int .i64 n), .v (.int .i64 o), .v (.int .i64 r)]] (.v (.bool (decide (zoneP ⟨n, o, r⟩)))) [] := by
  refine fnT C.impl_zoneOk ?_
  refine run ?_
  refine r_endb ?_
  rw [zoneP_mk]
  grind
instance (n o r : Int) : Con Try.prog F.impl_zoneOk [.agg [.v (.int .i64 n), .v (.int .i64 o), .v (.int .i64 r)]] True (.v (.bool (decide (zoneP ⟨n, o, r⟩)))) [] := ⟨fun _ => impl_zoneOk n o r⟩

set_option maxHeartbeats 4000000 in
theorem impl_hasRule_1 (k2 : Nat) (n f t m k d w a s : Int) (x : Int) : CallsT Try.prog [] F.impl_hasRule_1 [.agg [.v (.int .i64 n), .v (.int .i64 f), .v (.int .i64 t), .v (.int .i64 m), .v (.int .i64 k), .v (.int .i64 d), .v (.int .i64 w), .v (.int .i64 a), .v (.int .i64 s)], .pz k2 [.v (.int .i64 x)] 0] (.v (.bool (decide (n = x)))) [] := by
  refine fnT C.impl_hasRule_1 ?_
  refine run ?_
  exact r_end [] []
instance (k2 : Nat) (n f t m k d w a s : Int) (x : Int) : Con Try.prog F.impl_hasRule_1 [.agg [.v (.int .i64 n), .v (.int .i64 f), .v (.int .i64 t), .v (.int .i64 m), .v (.int .i64 k), .v (.int .i64 d), .v (.int .i64 w), .v (.int .i64 a), .v (.int .i64 s)], .pz k2 [.v (.int .i64 x)] 0] True (.v (.bool (decide (n = x)))) [] := ⟨fun _ => impl_hasRule_1 k2 n f t m k d w a s x⟩

set_option maxHeartbeats 4000000 in
theorem impl_zoneAt_1 (k2 : Nat) (n o r : Int) (x : Int) : CallsT Try.prog [] F.impl_zoneAt_1 [.agg [.v (.int .i64 n), .v (.int .i64 o), .v (.int .i64 r)], .pz k2 [.v (.int .i64 x)] 0] (.v (.bool (decide (n = x)))) [] := by
  refine fnT C.impl_zoneAt_1 ?_
  refine run ?_
  exact r_end [] []
instance (k2 : Nat) (n o r : Int) (x : Int) : Con Try.prog F.impl_zoneAt_1 [.agg [.v (.int .i64 n), .v (.int .i64 o), .v (.int .i64 r)], .pz k2 [.v (.int .i64 x)] 0] True (.v (.bool (decide (n = x)))) [] := ⟨fun _ => impl_zoneAt_1 k2 n o r x⟩

set_option maxHeartbeats 4000000 in
theorem slices_IndexFunc_Rule (k k2 : Nat) (l : List RuleV) (n : Int) (hpre : l.length ≤ 1048576) : CallsT Try.prog [] F.slices_IndexFunc_Rule [.sl false k l.length 9 (rowT ruleC l), .clo 99 [.pz k2 [.v (.int .i64 n)] 0]] (.v (.int .i64 (findRu l n))) [] := by
  refine fnT C.slices_IndexFunc_Rule ?_
  refine run ?_
  refine r_for l.length (fun i => [(0, .sl false k l.length 9 (rowT ruleC l)), (1, .clo 99 [.pz k2 [.v (.int .i64 n)] 0]), (7, .v (.int .i64 l.length)), (8, .v (.int .i64 i))]) (fun _ => []) (fun i => ∀ j, j < i → ¬ (nth l (j : Nat)).name = n) [] [] all_0 Gc.of (fun i hi hv => ?_) (fun hv => ?_)
  · refine run ?_
    refine r_clo ?_
    refine run ?_
    refine r_ifd (fun h => ?_) (fun h => ?_)
    · rw [findRu_at hi h hv]
      refine run ?_
      exact r_end [] []
    · refine run ?_
      exact ⟨[], [], Gc.of, all_step hv h⟩
  · rw [findRu_no hv]
    refine run ?_
    exact r_end [] []
instance (k k2 : Nat) (l : List RuleV) (n : Int) : Con Try.prog F.slices_IndexFunc_Rule [.sl false k l.length 9 (rowT ruleC l), .clo 99 [.pz k2 [.v (.int .i64 n)] 0]] (l.length ≤ 1048576) (.v (.int .i64 (findRu l n))) [] := ⟨fun h => slices_IndexFunc_Rule k k2 l n h⟩

set_option maxHeartbeats 4000000 in
theorem slices_ContainsFunc_Rule (k k2 : Nat) (l : List RuleV) (n : Int) (hpre : l.length ≤ 1048576) : CallsT Try.prog [] F.slices_ContainsFunc_Rule [.sl false k l.length 9 (rowT ruleC l), .clo 99 [.pz k2 [.v (.int .i64 n)] 0]] (.v (.bool (decide (0 ≤ findRu l n)))) [] := by
  refine fnT C.slices_ContainsFunc_Rule ?_
  refine run ?_
  exact r_end [] []
instance (k k2 : Nat) (l : List RuleV) (n : Int) : Con Try.prog F.slices_ContainsFunc_Rule [.sl false k l.length 9 (rowT ruleC l), .clo 99 [.pz k2 [.v (.int .i64 n)] 0]] (l.length ≤ 1048576) (.v (.bool (decide (0 ≤ findRu l n)))) [] := ⟨fun h => slices_ContainsFunc_Rule k k2 l n h⟩

set_option maxHeartbeats 4000000 in
theorem slices_IndexFunc_Zone (k k2 : Nat) (l : List ZoneV) (n : Int) (hpre : l.length ≤ 1048576) : CallsT Try.prog [] F.slices_IndexFunc_Zone [.sl false k l.length 3 (rowT zoneC l), .clo 101 [.pz k2 [.v (.int .i64 n)] 0]] (.v (.int .i64 (findZo l n))) [] := by
  refine fnT C.slices_IndexFunc_Zone ?_
  refine run ?_
  refine r_for l.length (fun i => [(0, .sl false k l.length 3 (rowT zoneC l)), (1, .clo 101 [.pz k2 [.v (.int .i64 n)] 0]), (7, .v (.int .i64 l.length)), (8, .v (.int .i64 i))]) (fun _ => []) (fun i => ∀ j, j < i → ¬ (nth l (j : Nat)).name = n) [] [] all_0 Gc.of (fun i hi hv => ?_) (fun hv => ?_)
  · refine run ?_
    refine r_clo ?_
    refine run ?_
    refine r_ifd (fun h => ?_) (fun h => ?_)
    · rw [findZo_at hi h hv]
      refine run ?_
      exact r_end [] []
    · refine run ?_
      exact ⟨[], [], Gc.of, all_step hv h⟩
  · rw [findZo_no hv]
    refine run ?_
    exact r_end [] []
instance (k k2 : Nat) (l : List ZoneV) (n : Int) : Con Try.prog F.slices_IndexFunc_Zone [.sl false k l.length 3 (rowT zoneC l), .clo 101 [.pz k2 [.v (.int .i64 n)] 0]] (l.length ≤ 1048576) (.v (.int .i64 (findZo l n))) [] := ⟨fun h => slices_IndexFunc_Zone k k2 l n h⟩

set_option maxHeartbeats 4000000 in
theorem impl_hasRule (k0 k1 k2 : Nat) (rules : List RuleV) (zones : List ZoneV) (links : List LinkV) (n : Int) (hpre : rules.length ≤ 1048576) : CallsT Try.prog [] F.impl_hasRule [.agg [.sl false k0 rules.length 9 (rowT ruleC rules), .sl false k1 zones.length 3 (rowT zoneC zones), .sl false k2 links.length 2 (rowT linkC links)], .v (.int .i64 n)] (.v (.bool (decide (0 ≤ findRu rules n)))) [] := by
  refine fnT C.impl_hasRule ?_
  refine run ?_
  exact r_end [] []
instance (k0 k1 k2 : Nat) (rules : List RuleV) (zones : List ZoneV) (links : List LinkV) (n : Int) : Con Try.prog F.impl_hasRule [.agg [.sl false k0 rules.length 9 (rowT ruleC rules), .sl false k1 zones.length 3 (rowT zoneC zones), .sl false k2 links.length 2 (rowT linkC links)], .v (.int .i64 n)] (rules.length ≤ 1048576) (.v (.bool (decide (0 ≤ findRu rules n)))) [] := ⟨fun h => impl_hasRule k0 k1 k2 rules zones links n h⟩

set_option maxHeartbeats 4000000 in
theorem impl_zoneAt (k0 k1 k2 : Nat) (rules : List RuleV) (zones : List ZoneV) (links : List LinkV) (n : Int) (hpre : zones.length ≤ 1048576) : CallsT Try.prog [] F.impl_zoneAt [.agg [.sl false k0 rules.length 9 (rowT ruleC rules), .sl false k1 zones.length 3 (rowT zoneC zones), .sl false k2 links.length 2 (rowT linkC links)], .v (.int .i64 n)] (.v (.int .i64 (findZo zones n))) [] := by
  refine fnT C.impl_zoneAt ?_
  refine run ?_
  exact r_end [] []
instance (k0 k1 k2 : Nat) (rules : List RuleV) (zones : List ZoneV) (links : List LinkV) (n : Int) : Con Try.prog F.impl_zoneAt [.agg [.sl false k0 rules.length 9 (rowT ruleC rules), .sl false k1 zones.length 3 (rowT zoneC zones), .sl false k2 links.length 2 (rowT linkC links)], .v (.int .i64 n)] (zones.length ≤ 1048576) (.v (.int .i64 (findZo zones n))) [] := ⟨fun h => impl_zoneAt k0 k1 k2 rules zones links n h⟩

set_option maxHeartbeats 4000000 in
theorem spec_l12HasRule (k : Nat) (l : List RuleV) (n : Int) (hpre : l.length ≤ 1048576) : CallsT Try.prog [] F.spec_l12HasRule [.sl false k l.length 9 (rowT ruleC l), .v (.int .i64 n)] (.v (.bool (decide (0 ≤ findRu l n)))) [] := by
  refine fnT C.spec_l12HasRule ?_
  refine run ?_
  refine r_for l.length (fun i => [(0, .sl false k l.length 9 (rowT ruleC l)), (1, .v (.int .i64 n)), (5, .v (.int .i64 i))]) (fun _ => []) (fun i => ∀ j, j < i → ¬ (nth l (j : Nat)).name = n) [] [] all_0 Gc.of (fun i hi hv => ?_) (fun hv => ?_)
  · refine run ?_
    refine r_ifd (fun h => ?_) (fun h => ?_)
    · rw [findRu_at hi h hv]
      refine run ?_
      refine r_endT ?_
      omega
    · refine run ?_
      exact ⟨[], [], Gc.of, all_step hv h⟩
  · rw [findRu_no hv]
    refine run ?_
    refine r_endF ?_
    omega
instance (k : Nat) (l : List RuleV) (n : Int) : Con Try.prog F.spec_l12HasRule [.sl false k l.length 9 (rowT ruleC l), .v (.int .i64 n)] (l.length ≤ 1048576) (.v (.bool (decide (0 ≤ findRu l n)))) [] := ⟨fun h => spec_l12HasRule k l n h⟩

set_option maxHeartbeats 4000000 in
theorem spec_l12HasZone (k : Nat) (l : List ZoneV) (n : Int) (hpre : l.length ≤ 1048576) : CallsT Try.prog [] F.spec_l12HasZone [.sl false k l.length 3 (rowT zoneC l), .v (.int .i64 n)] (.v (.bool (decide (0 ≤ findZo l n)))) [] := by
  refine fnT C.spec_l12HasZone ?_
  refine run ?_
  refine r_for l.length (fun i => [(0, .sl false k l.length 3 (rowT zoneC l)), (1, .v (.int .i64 n)), (5, .v (.int .i64 i))]) (fun _ => []) (fun i => ∀ j, j < i → ¬ (nth l (j : Nat)).name = n) [] [] all_0 Gc.of (fun i hi hv => ?_) (fun hv => ?_)
  · refine run ?_
    refine r_ifd (fun h => ?_) (fun h => ?_)
    · rw [findZo_at hi h hv]
      refine run ?_
      refine r_endT ?_
      omega
    · refine run ?_
      exact ⟨[], [], Gc.of, all_step hv h⟩
  · rw [findZo_no hv]
    refine run ?_
    refine r_endF ?_
    omega
instance (k : Nat) (l : List ZoneV) (n : Int) : Con Try.prog F.spec_l12HasZone [.sl false k l.length 3 (rowT zoneC l), .v (.int .i64 n)] (l.length ≤ 1048576) (.v (.bool (decide (0 ≤ findZo l n)))) [] := ⟨fun h => spec_l12HasZone k l n h⟩

theorem ruleP_eta (r : RuleV) : ruleP ⟨r.name, r.fr, r.to', r.month, r.kind, r.day, r.week, r.at', r.save⟩ = ruleP r := rfl
theorem zoneP_eta (z : ZoneV) : zoneP ⟨z.name, z.off, z.rule⟩ = zoneP z := rfl

set_option linter.unusedSimpArgs false in
set_option maxHeartbeats 8000000 in
set_option maxHeartbeats 4000000 in
theorem impl_SourceOk (k0 k1 k2 : Nat) (rules : List RuleV) (zones : List ZoneV) (links : List LinkV) (hpre : rules.length ≤ 1048576 ∧ zones.length ≤ 1048576 ∧ links.length ≤ 1048576) : CallsT Try.prog [] F.impl_SourceOk [.agg [.sl false k0 rules.length 9 (rowT ruleC rules), .sl false k1 zones.length 3 (rowT zoneC zones), .sl false k2 links.length 2 (rowT linkC links)]] (.v (.bool (decide (srcP rules zones links)))) [] := by
  refine fnT C.impl_SourceOk ?_
  obtain ⟨hr, hz, hl⟩ := hpre
  refine run ?_
  refine r_for rules.length (fun i => [(1, .ptr 0 [] 0), (10, .sl false k0 rules.length 9 (rowT ruleC rules)), (11, .v (.int .i64 rules.length)), (12, .v (.int .i64 i))]) (fun _ => [⟨0, true, [.sl false k0 rules.length 9 (rowT ruleC rules), .sl false k1 zones.length 3 (rowT zoneC zones), .sl false k2 links.length 2 (rowT linkC links)]⟩]) (fun i => ∀ j, j < i → ruleP (nth rules (j : Nat))) [0] [] all_0 Gc.of (fun i hi hv => ?_) (fun hv1 => ?_)
  · refine run ?_
    refine r_ifd (fun h => ?_) (fun h => ?_)
    · refine run ?_
      refine r_endF ?_
      intro hs
      exact h (hs.2.1 i hi)
    · refine run ?_
      exact ⟨[0], [], Gc.of, all_step hv (Decidable.not_not.1 h)⟩
  refine run ?_
  refine r_for zones.length (fun i => [(1, .ptr 0 [] 0), (21, .sl false k1 zones.length 3 (rowT zoneC zones)), (22, .v (.int .i64 zones.length)), (23, .v (.int .i64 i))]) (fun _ => [⟨0, true, [.sl false k0 rules.length 9 (rowT ruleC rules), .sl false k1 zones.length 3 (rowT zoneC zones), .sl false k2 links.length 2 (rowT linkC links)]⟩]) (fun i => ∀ j, j < i → zoneQ rules zones j) [0] [] all_0 Gc.of (fun i hi hv => ?_) (fun hv2 => ?_)
  · refine run ?_
    refine r_ifd (fun h => ?_) (fun h => ?_)
    · refine run ?_
      refine r_endF ?_
      intro hs
      obtain ⟨q1, q2, q3⟩ := hs.2.2.1 i hi
      rcases h with (h | h) | h
      · exact h q1
      · exact q2 h
      · exact q3.elim (fun e => h.1 e) (fun e => h.2 e)
    · refine run ?_
      refine ⟨[0], [], Gc.of, all_step hv ?_⟩
      have a1 := (not_or.1 (not_or.1 h).1).1
      have a2 := (not_or.1 (not_or.1 h).1).2
      have a3 := (not_or.1 h).2
      exact ⟨Decidable.not_not.1 a1, a2, Decidable.byContradiction fun hh => a3 ⟨(not_or.1 hh).1, (not_or.1 hh).2⟩⟩
  refine run ?_
  refine r_for links.length (fun i => [(1, .ptr 0 [] 0), (61, .sl false k2 links.length 2 (rowT linkC links)), (62, .v (.int .i64 links.length)), (63, .v (.int .i64 i))]) (fun _ => [⟨0, true, [.sl false k0 rules.length 9 (rowT ruleC rules), .sl false k1 zones.length 3 (rowT zoneC zones), .sl false k2 links.length 2 (rowT linkC links)]⟩]) (fun i => ∀ j, j < i → linkQ zones links j) [0] [] all_0 Gc.of (fun i hi hv => ?_) (fun hv3 => ?_)
  · refine run ?_
    refine r_ifd (fun h => ?_) (fun h => ?_)
    · refine run ?_
      refine r_endF ?_
      intro hs
      obtain ⟨q1, q2, q3, q4⟩ := hs.2.2.2 i hi
      rcases h with ((h | h) | h) | h
      · exact h q1
      · exact q2 h
      · omega
      · omega
    · refine run ?_
      refine ⟨[0], [], Gc.of, all_step hv ?_⟩
      have a1 := (not_or.1 (not_or.1 (not_or.1 h).1).1).1
      have a2 := (not_or.1 (not_or.1 (not_or.1 h).1).1).2
      have a3 := (not_or.1 (not_or.1 h).1).2
      have a4 := (not_or.1 h).2
      exact ⟨Decidable.not_not.1 a1, a2, by omega, by omega⟩
  · refine run ?_
    refine r_endb ?_
    exact ⟨fun h => ⟨by omega, hv1, hv2, hv3⟩, fun h => by have := h.1; omega⟩
instance (k0 k1 k2 : Nat) (rules : List RuleV) (zones : List ZoneV) (links : List LinkV) : Con Try.prog F.impl_SourceOk [.agg [.sl false k0 rules.length 9 (rowT ruleC rules), .sl false k1 zones.length 3 (rowT zoneC zones), .sl false k2 links.length 2 (rowT linkC links)]] (rules.length ≤ 1048576 ∧ zones.length ≤ 1048576 ∧ links.length ≤ 1048576) (.v (.bool (decide (srcP rules zones links)))) [] := ⟨fun h => impl_SourceOk k0 k1 k2 rules zones links h⟩

end Go.TL
