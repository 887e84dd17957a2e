/- The zone of a name, both sides; sources that are right, by the reference. No conditions but those that are written. -/
import Derived.Test.YtkecbkljfpebhaaX8
namespace Go.TL
set_option linter.unusedSimpArgs false
open Go.Proofs Go.RowKit
attribute [local irreducible] wpOpsT wpT EndT Ex.seq Ex.block W

/-- The name behind links that have it not among the first; that have it at a place. -/
theorem zname_at {links : List LinkV} {n : Int} {i : Nat} (hi : i < links.length) (h : (nth links (i : Nat)).name = n) (hv : ∀ j, j < i → ¬ (nth links (j : Nat)).name = n) : zname links n = (nth links (i : Nat)).to' := by
  rw [zname, findLi_at hi h hv, if_pos (by omega)]
theorem zname_no {links : List LinkV} {n : Int} (hv : ∀ j, j < links.length → ¬ (nth links (j : Nat)).name = n) : zname links n = n := by
  rw [zname, findLi_no hv, if_neg (by omega)]
theorem zonV_no {rules : List RuleV} {zones : List ZoneV} {links : List LinkV} {n : Int} (h : ¬ zonO rules zones links n) : zonV rules zones links n = ⟨0, 0, 0⟩ := if_neg h
theorem zonV_yes {rules : List RuleV} {zones : List ZoneV} {links : List LinkV} {n : Int} (h : zonO rules zones links n) : zonV rules zones links n = nth zones (findZo zones (zname links n)) := if_pos h

set_option linter.unusedSimpArgs false in
set_option maxHeartbeats 8000000 in
set_option maxHeartbeats 4000000 in
theorem impl_ZoneOf (k0 k1 k2 : Nat) (rules : List RuleV) (zones : List ZoneV) (links : List LinkV) (n : Int) (hpre : rules.length ≤ 1048576 ∧ zones.length ≤ 1048576 ∧ links.length ≤ 1048576) : CallsT Try.prog [] F.impl_ZoneOf [.agg [.sl false k0 rules.length 9 (rowT ruleC rules), .sl false k1 zones.length 3 (rowT zoneC zones), .sl false k2 links.length 2 (rowT linkC links)], .v (.int .i64 n)] (.tup [.agg [.v (.int .i64 ((zonV rules zones links n).name)), .v (.int .i64 ((zonV rules zones links n).off)), .v (.int .i64 ((zonV rules zones links n).rule))], .v (.bool (decide (zonO rules zones links n)))]) [] := by
  refine fnT C.impl_ZoneOf ?_
  obtain ⟨hr, hz, hl⟩ := hpre
  refine run ?_
  refine r_ifd (fun h => ?_) (fun h => ?_)
  · have hn : ¬ zonO rules zones links n := fun hh => h hh.1
    rw [zonV_no hn, decide_eq_false hn]
    refine run ?_
    exact r_end [] []
  have hs := Decidable.not_not.1 h
  refine run ?_
  refine r_for links.length (fun i => [(1, .v (.int .i64 n)), (2, .ptr 0 [] 0), (4, .ptr 1 [] 0), (14, .sl false k2 links.length 2 (rowT linkC links)), (15, .v (.int .i64 links.length)), (16, .v (.int .i64 i))]) (fun _ => [⟨0, true, [.sl false k0 rules.length 9 (rowT ruleC rules), .sl false k1 zones.length 3 (rowT zoneC zones), .sl false k2 links.length 2 (rowT linkC links)]⟩, ⟨0, true, [.v (.int .i64 0), .v (.int .i64 0), .v (.int .i64 0)]⟩]) (fun i => ∀ j, j < i → ¬ (nth links (j : Nat)).name = n) [0, 1] [] all_0 Gc.of (fun i hi hv => ?_) (fun hv => ?_)
  · refine run ?_
    refine r_ifd (fun h1 => ?_) (fun h1 => ?_)
    · have hzn := zname_at hi h1 hv
      have hfb := findZo_b zones (nth links (i : Nat)).to'
      have hmem : ∀ hh : 0 ≤ findZo zones (nth links (i : Nat)).to', True := fun _ => trivial
      refine run ?_
      refine r_ifd (fun h2 => ?_) (fun h2 => ?_)
      · have hn : ¬ zonO rules zones links n := fun hh => by have h3 := hh.2; rw [hzn] at h3; omega
        rw [zonV_no hn, decide_eq_false hn]
        refine run ?_
        exact r_end [] []
      · have hy : zonO rules zones links n := ⟨hs, by rw [hzn]; omega⟩
        rw [zonV_yes hy, decide_eq_true hy, hzn]
        refine run ?_
        exact r_end [] []
    · refine run ?_
      exact ⟨[0, 1], [], Gc.of, all_step hv h1⟩
  · have hzn := zname_no hv
    have hfb := findZo_b zones n
    have hmem : ∀ hh : 0 ≤ findZo zones n, True := fun _ => trivial
    refine run ?_
    refine r_ifd (fun h2 => ?_) (fun h2 => ?_)
    · have hn : ¬ zonO rules zones links n := fun hh => by have h3 := hh.2; rw [hzn] at h3; omega
      rw [zonV_no hn, decide_eq_false hn]
      refine run ?_
      exact r_end [] []
    · have hy : zonO rules zones links n := ⟨hs, by rw [hzn]; omega⟩
      rw [zonV_yes hy, decide_eq_true hy, hzn]
      refine run ?_
      exact r_end [] []
instance (k0 k1 k2 : Nat) (rules : List RuleV) (zones : List ZoneV) (links : List LinkV) (n : Int) : Con Try.prog F.impl_ZoneOf [.agg [.sl false k0 rules.length 9 (rowT ruleC rules), .sl false k1 zones.length 3 (rowT zoneC zones), .sl false k2 links.length 2 (rowT linkC links)], .v (.int .i64 n)] (rules.length ≤ 1048576 ∧ zones.length ≤ 1048576 ∧ links.length ≤ 1048576) (.tup [.agg [.v (.int .i64 ((zonV rules zones links n).name)), .v (.int .i64 ((zonV rules zones links n).off)), .v (.int .i64 ((zonV rules zones links n).rule))], .v (.bool (decide (zonO rules zones links n)))]) [] := ⟨fun h => impl_ZoneOf k0 k1 k2 rules zones links n h⟩

theorem zoneQ_iff {rules : List RuleV} {zones : List ZoneV} {i : Nat} (h1 : ∀ j, j < rules.length → ruleP (nth rules (j : Nat))) : zoneQ rules zones i ↔ greatP (nth zones (i : Nat)).name ∧ (-900 ≤ (nth zones (i : Nat)).off ∧ (nth zones (i : Nat)).off ≤ 900) ∧ ((i : Int) = 0 ∨ (nth zones ((i : Int) - 1)).name < (nth zones (i : Nat)).name) ∧ ((nth zones (i : Nat)).rule = 0 ∨ 0 ≤ findRu rules (nth zones (i : Nat)).rule) := by
  unfold zoneQ zoneP
  constructor
  · rintro ⟨⟨a, b, c⟩, d, e⟩
    refine ⟨a, b, ?_, e⟩
    by_cases hi : (i : Int) = 0
    · exact .inl hi
    · exact .inr (Int.not_le.1 fun hh => d ⟨by omega, hh⟩)
  · rintro ⟨a, b, d, e⟩
    refine ⟨⟨a, b, ?_⟩, fun hh => by omega, e⟩
    rcases e with e | e
    · exact .inl e
    · refine .inr ?_
      have hb := findRu_b rules (nth zones (i : Nat)).rule
      have h2 := h1 (findRu rules (nth zones (i : Nat)).rule).toNat (by omega)
      rw [Int.toNat_of_nonneg e] at h2
      have h3 := findRu_hit e
      rw [← h3]
      exact h2.1
theorem linkQ_iff {zones : List ZoneV} {links : List LinkV} {i : Nat} : linkQ zones links i ↔ greatP (nth links (i : Nat)).name ∧ ((i : Int) = 0 ∨ (nth links ((i : Int) - 1)).name < (nth links (i : Nat)).name) ∧ 0 ≤ findZo zones (nth links (i : Nat)).to' ∧ ¬ 0 ≤ findZo zones (nth links (i : Nat)).name := by
  unfold linkQ
  constructor
  · rintro ⟨a, b, c, d⟩
    refine ⟨a, ?_, c, by omega⟩
    by_cases hi : (i : Int) = 0
    · exact .inl hi
    · exact .inr (Int.not_le.1 fun hh => b ⟨by omega, hh⟩)
  · rintro ⟨a, b, c, d⟩
    exact ⟨a, fun hh => by omega, c, by omega⟩
theorem nth_takeX {α : Type} [Inhabited α] {l : List α} {i : Nat} (h0 : 0 < i) (h : i ≤ l.length) : nth (l.take i) ((i : Int) - 1) = nth l ((i : Int) - 1) := by
  rw [show (i : Int) - 1 = ((i - 1 : Nat) : Int) by omega, nth_nat (by rw [List.length_take]; omega), nth_nat (by omega), List.getElem_take]

/-- The tag of a cut, or of nothing at all. -/
def kzX (k : Nat) : Nat → Nat
  | 0 => 0
  | _ + 1 => k
@[local go_sem] theorem kzX_0 (k : Nat) : kzX k 0 = 0 := rfl
@[local go_sem] theorem kzX_s (k i : Nat) : kzX k (i + 1) = k := rfl

set_option maxHeartbeats 4000000 in
theorem spec_l12Zone (k0 k1 k2 n2 e2 : Nat) (cs2 : List T) (rules : List RuleV) (zones : List ZoneV) (a b c : Int) (hpre : rules.length ≤ 1048576 ∧ zones.length ≤ 1048576) : CallsT Try.prog [] F.spec_l12Zone [.agg [.sl false k0 rules.length 9 (rowT ruleC rules), .sl false k1 zones.length 3 (rowT zoneC zones), .sl false k2 n2 e2 cs2], .agg [.v (.int .i64 a), .v (.int .i64 b), .v (.int .i64 c)]] (.v (.bool (decide (greatP a ∧ (-900 ≤ b ∧ b ≤ 900) ∧ ((zones.length : Int) = 0 ∨ (nth zones ((zones.length : Int) - 1)).name < a) ∧ (c = 0 ∨ 0 ≤ findRu rules c))))) [] := by
  refine fnT C.spec_l12Zone ?_
  obtain ⟨h1, h2⟩ := hpre
  refine run ?_
  refine r_endb ?_
  grind
instance (k0 k1 k2 n2 e2 : Nat) (cs2 : List T) (rules : List RuleV) (zones : List ZoneV) (a b c : Int) : Con Try.prog F.spec_l12Zone [.agg [.sl false k0 rules.length 9 (rowT ruleC rules), .sl false k1 zones.length 3 (rowT zoneC zones), .sl false k2 n2 e2 cs2], .agg [.v (.int .i64 a), .v (.int .i64 b), .v (.int .i64 c)]] (rules.length ≤ 1048576 ∧ zones.length ≤ 1048576) (.v (.bool (decide (greatP a ∧ (-900 ≤ b ∧ b ≤ 900) ∧ ((zones.length : Int) = 0 ∨ (nth zones ((zones.length : Int) - 1)).name < a) ∧ (c = 0 ∨ 0 ≤ findRu rules c))))) [] := ⟨fun h => spec_l12Zone k0 k1 k2 n2 e2 cs2 rules zones a b c h⟩

set_option maxHeartbeats 4000000 in
theorem spec_l12Link (k0 k1 k2 n0 e0 : Nat) (cs0 : List T) (zones : List ZoneV) (links : List LinkV) (a b : Int) (hpre : zones.length ≤ 1048576 ∧ links.length ≤ 1048576) : CallsT Try.prog [] F.spec_l12Link [.agg [.sl false k0 n0 e0 cs0, .sl false k1 zones.length 3 (rowT zoneC zones), .sl false k2 links.length 2 (rowT linkC links)], .agg [.v (.int .i64 a), .v (.int .i64 b)]] (.v (.bool (decide (greatP a ∧ ((links.length : Int) = 0 ∨ (nth links ((links.length : Int) - 1)).name < a) ∧ 0 ≤ findZo zones b ∧ ¬ 0 ≤ findZo zones a)))) [] := by
  refine fnT C.spec_l12Link ?_
  obtain ⟨h1, h2⟩ := hpre
  refine run ?_
  refine r_endb ?_
  grind
instance (k0 k1 k2 n0 e0 : Nat) (cs0 : List T) (zones : List ZoneV) (links : List LinkV) (a b : Int) : Con Try.prog F.spec_l12Link [.agg [.sl false k0 n0 e0 cs0, .sl false k1 zones.length 3 (rowT zoneC zones), .sl false k2 links.length 2 (rowT linkC links)], .agg [.v (.int .i64 a), .v (.int .i64 b)]] (zones.length ≤ 1048576 ∧ links.length ≤ 1048576) (.v (.bool (decide (greatP a ∧ ((links.length : Int) = 0 ∨ (nth links ((links.length : Int) - 1)).name < a) ∧ 0 ≤ findZo zones b ∧ ¬ 0 ≤ findZo zones a)))) [] := ⟨fun h => spec_l12Link k0 k1 k2 n0 e0 cs0 zones links a b h⟩

set_option linter.unusedSimpArgs false in
set_option maxHeartbeats 8000000 in
set_option maxHeartbeats 4000000 in
theorem spec_SourceOk (k0 k1 k2 : Nat) (rules : List RuleV) (zones : List ZoneV) (links : List LinkV) (hpre : rules.length ≤ 1048576 ∧ zones.length ≤ 1048576 ∧ links.length ≤ 1048576) : CallsT Try.prog [] F.spec_SourceOk [.agg [.sl false k0 rules.length 9 (rowT ruleC rules), .sl false k1 zones.length 3 (rowT zoneC zones), .sl false k2 links.length 2 (rowT linkC links)]] (.v (.bool (decide (srcP rules zones links)))) [] := by
  refine fnT C.spec_SourceOk ?_
  obtain ⟨hr, hz, hl⟩ := hpre
  refine run ?_
  refine r_ifd (fun h => ?_) (fun h => ?_)
  · refine run ?_
    refine r_endF ?_
    intro hs
    have h1 := hs.1
    have h2 := zones_26 hs.2.2.1
    have h3 := links_26 hs.2.2.2
    omega
  have hr20 : rules.length ≤ 20 := by omega
  have hz26 : zones.length ≤ 26 := by omega
  have hl26 : links.length ≤ 26 := by omega
  refine run ?_
  refine r_for rules.length (fun i => [(1, .ptr 0 [] 0), (3, .ptr 1 [] 0), (4, .v (.int .i64 i))]) (fun _ => [⟨0, true, [.sl false k0 rules.length 9 (rowT ruleC rules), .sl false k1 zones.length 3 (rowT zoneC zones), .sl false k2 links.length 2 (rowT linkC links)]⟩, ⟨0, true, [.sl false k0 rules.length 9 (rowT ruleC rules), .sl false 0 0 3 [], .sl false 0 0 2 []]⟩]) (fun i => ∀ j, j < i → ruleP (nth rules (j : Nat))) [0, 1] [] all_0 Gc.of (fun i hi hv => ?_) (fun hv1 => ?_)
  · refine run ?_
    refine r_ifd (fun h => ?_) (fun h => ?_)
    · refine run ?_
      refine r_endF ?_
      intro hs
      exact h (hs.2.1 i hi)
    · refine run ?_
      exact ⟨[0, 1], [], Gc.of, all_step hv (Decidable.not_not.1 h)⟩
  refine run ?_
  refine r_for zones.length (fun i => [(1, .ptr 0 [] 0), (3, .ptr 1 [] 0), (5, .v (.int .i64 i))]) (fun i => [⟨0, true, [.sl false k0 rules.length 9 (rowT ruleC rules), .sl false k1 zones.length 3 (rowT zoneC zones), .sl false k2 links.length 2 (rowT linkC links)]⟩, ⟨0, true, [.sl false k0 rules.length 9 (rowT ruleC rules), .sl false (kzX k1 i) (zones.take i).length 3 (rowT zoneC (zones.take i)), .sl false 0 0 2 []]⟩]) (fun i => ∀ j, j < i → zoneQ rules zones j) [0, 1] [] all_0 Gc.of (fun i hi hv => ?_) (fun hv2 => ?_)
  · have ht : (zones.take i).length = i := by rw [List.length_take]; omega
    have hq := zoneQ_iff (zones := zones) (i := i) hv1
    refine run ?_
    rw [ht]
    refine r_ifd (fun h => ?_) (fun h => ?_)
    · refine run ?_
      refine r_endF ?_
      intro hs
      have h2 := hq.1 (hs.2.2.1 i hi)
      refine h ⟨h2.1, h2.2.1, ?_, h2.2.2.2⟩
      rcases Nat.eq_zero_or_pos i with e | e
      · exact .inl (by omega)
      · rw [nth_takeX e (by omega)]
        exact h2.2.2.1
    · have h := Decidable.not_not.1 h
      refine run ?_
      refine ⟨[0, 1], [], Gc.of, all_step hv (hq.2 ⟨h.1, h.2.1, ?_, h.2.2.2⟩)⟩
      have h3 := h.2.2.1
      rcases Nat.eq_zero_or_pos i with e | e
      · exact .inl (by omega)
      · rwa [nth_takeX e (by omega)] at h3
  refine run ?_
  rw [List.take_length]
  refine r_for links.length (fun i => [(1, .ptr 0 [] 0), (3, .ptr 1 [] 0), (6, .v (.int .i64 i))]) (fun i => [⟨0, true, [.sl false k0 rules.length 9 (rowT ruleC rules), .sl false k1 zones.length 3 (rowT zoneC zones), .sl false k2 links.length 2 (rowT linkC links)]⟩, ⟨0, true, [.sl false k0 rules.length 9 (rowT ruleC rules), .sl false (kzX k1 zones.length) zones.length 3 (rowT zoneC zones), .sl false (kzX k2 i) (links.take i).length 2 (rowT linkC (links.take i))]⟩]) (fun i => ∀ j, j < i → linkQ zones links j) [0, 1] [] all_0 Gc.of (fun i hi hv => ?_) (fun hv3 => ?_)
  · have ht : (links.take i).length = i := by rw [List.length_take]; omega
    have hq := linkQ_iff (zones := zones) (links := links) (i := i)
    refine run ?_
    rw [ht]
    refine r_ifd (fun h => ?_) (fun h => ?_)
    · refine run ?_
      refine r_endF ?_
      intro hs
      have h2 := hq.1 (hs.2.2.2 i hi)
      refine h ⟨h2.1, ?_, h2.2.2⟩
      rcases Nat.eq_zero_or_pos i with e | e
      · exact .inl (by omega)
      · rw [nth_takeX e (by omega)]
        exact h2.2.1
    · have h := Decidable.not_not.1 h
      refine run ?_
      refine ⟨[0, 1], [], Gc.of, all_step hv (hq.2 ⟨h.1, ?_, h.2.2⟩)⟩
      have h3 := h.2.1
      rcases Nat.eq_zero_or_pos i with e | e
      · exact .inl (by omega)
      · rwa [nth_takeX e (by omega)] at h3
  · refine run ?_
    exact r_endT ⟨hr20, hv1, hv2, hv3⟩
instance (k0 k1 k2 : Nat) (rules : List RuleV) (zones : List ZoneV) (links : List LinkV) : Con Try.prog F.spec_SourceOk [.agg [.sl false k0 rules.length 9 (rowT ruleC rules), .sl false k1 zones.length 3 (rowT zoneC zones), .sl false k2 links.length 2 (rowT linkC links)]] (rules.length ≤ 1048576 ∧ zones.length ≤ 1048576 ∧ links.length ≤ 1048576) (.v (.bool (decide (srcP rules zones links)))) [] := ⟨fun h => spec_SourceOk k0 k1 k2 rules zones links h⟩

set_option linter.unusedSimpArgs false in
set_option maxHeartbeats 8000000 in
set_option maxHeartbeats 4000000 in
theorem spec_ZoneOf (k0 k1 k2 : Nat) (rules : List RuleV) (zones : List ZoneV) (links : List LinkV) (n : Int) (hpre : rules.length ≤ 1048576 ∧ zones.length ≤ 1048576 ∧ links.length ≤ 1048576) : CallsT Try.prog [] F.spec_ZoneOf [.agg [.sl false k0 rules.length 9 (rowT ruleC rules), .sl false k1 zones.length 3 (rowT zoneC zones), .sl false k2 links.length 2 (rowT linkC links)], .v (.int .i64 n)] (.tup [.agg [.v (.int .i64 ((zonV rules zones links n).name)), .v (.int .i64 ((zonV rules zones links n).off)), .v (.int .i64 ((zonV rules zones links n).rule))], .v (.bool (decide (zonO rules zones links n)))]) [] := by
  refine fnT C.spec_ZoneOf ?_
  obtain ⟨hr, hz, hl⟩ := hpre
  refine run ?_
  refine r_ifd (fun h => ?_) (fun h => ?_)
  · have hn : ¬ zonO rules zones links n := fun hh => h hh.1
    rw [zonV_no hn, decide_eq_false hn]
    refine run ?_
    exact r_end [] []
  have hs := Decidable.not_not.1 h
  refine run ?_
  refine r_for links.length (fun i => [(1, .v (.int .i64 n)), (2, .ptr 0 [] 0), (4, .ptr 1 [] 0), (6, .v (.int .i64 i))]) (fun _ => [⟨0, true, [.sl false k0 rules.length 9 (rowT ruleC rules), .sl false k1 zones.length 3 (rowT zoneC zones), .sl false k2 links.length 2 (rowT linkC links)]⟩, ⟨0, true, [.v (.int .i64 0), .v (.int .i64 0), .v (.int .i64 0)]⟩]) (fun i => ∀ j, j < i → ¬ (nth links (j : Nat)).name = n) [0, 1] [] all_0 Gc.of (fun i hi hv => ?_) (fun hv => ?_)
  · refine run ?_
    refine r_ifd (fun h1 => ?_) (fun h1 => ?_)
    · have hzn := zname_at hi h1 hv
      refine run ?_
      refine r_for zones.length (fun q => [(1, .v (.int .i64 ((nth links (i : Nat)).to'))), (2, .ptr 0 [] 0), (4, .ptr 1 [] 0), (7, .v (.int .i64 q))]) (fun _ => [⟨0, true, [.sl false k0 rules.length 9 (rowT ruleC rules), .sl false k1 zones.length 3 (rowT zoneC zones), .sl false k2 links.length 2 (rowT linkC links)]⟩, ⟨0, true, [.v (.int .i64 0), .v (.int .i64 0), .v (.int .i64 0)]⟩]) (fun q => ∀ j, j < q → ¬ (nth zones (j : Nat)).name = (nth links (i : Nat)).to') [0, 1] [] all_0 Gc.of (fun q hq hv => ?_) (fun hv => ?_)
      · refine run ?_
        refine r_ifd (fun h2 => ?_) (fun h2 => ?_)
        · have hf := findZo_at hq h2 hv
          have hy : zonO rules zones links n := ⟨hs, by rw [hzn, hf]; omega⟩
          rw [zonV_yes hy, decide_eq_true hy, hzn, hf]
          refine run ?_
          exact r_end [] []
        · refine run ?_
          exact ⟨[0, 1], [], Gc.of, all_step hv h2⟩
      · have hf := findZo_no hv
        have hn : ¬ zonO rules zones links n := fun hh => by have h3 := hh.2; rw [hzn, hf] at h3; omega
        rw [zonV_no hn, decide_eq_false hn]
        refine run ?_
        exact r_end [] []
    · refine run ?_
      exact ⟨[0, 1], [], Gc.of, all_step hv h1⟩
  · have hzn := zname_no hv
    refine run ?_
    refine r_for zones.length (fun q => [(1, .v (.int .i64 n)), (2, .ptr 0 [] 0), (4, .ptr 1 [] 0), (7, .v (.int .i64 q))]) (fun _ => [⟨0, true, [.sl false k0 rules.length 9 (rowT ruleC rules), .sl false k1 zones.length 3 (rowT zoneC zones), .sl false k2 links.length 2 (rowT linkC links)]⟩, ⟨0, true, [.v (.int .i64 0), .v (.int .i64 0), .v (.int .i64 0)]⟩]) (fun q => ∀ j, j < q → ¬ (nth zones (j : Nat)).name = n) [0, 1] [] all_0 Gc.of (fun q hq hv => ?_) (fun hv => ?_)
    · refine run ?_
      refine r_ifd (fun h2 => ?_) (fun h2 => ?_)
      · have hf := findZo_at hq h2 hv
        have hy : zonO rules zones links n := ⟨hs, by rw [hzn, hf]; omega⟩
        rw [zonV_yes hy, decide_eq_true hy, hzn, hf]
        refine run ?_
        exact r_end [] []
      · refine run ?_
        exact ⟨[0, 1], [], Gc.of, all_step hv h2⟩
    · have hf := findZo_no hv
      have hn : ¬ zonO rules zones links n := fun hh => by have h3 := hh.2; rw [hzn, hf] at h3; omega
      rw [zonV_no hn, decide_eq_false hn]
      refine run ?_
      exact r_end [] []
instance (k0 k1 k2 : Nat) (rules : List RuleV) (zones : List ZoneV) (links : List LinkV) (n : Int) : Con Try.prog F.spec_ZoneOf [.agg [.sl false k0 rules.length 9 (rowT ruleC rules), .sl false k1 zones.length 3 (rowT zoneC zones), .sl false k2 links.length 2 (rowT linkC links)], .v (.int .i64 n)] (rules.length ≤ 1048576 ∧ zones.length ≤ 1048576 ∧ links.length ≤ 1048576) (.tup [.agg [.v (.int .i64 ((zonV rules zones links n).name)), .v (.int .i64 ((zonV rules zones links n).off)), .v (.int .i64 ((zonV rules zones links n).rule))], .v (.bool (decide (zonO rules zones links n)))]) [] := ⟨fun h => spec_ZoneOf k0 k1 k2 rules zones links n h⟩

end Go.TL
