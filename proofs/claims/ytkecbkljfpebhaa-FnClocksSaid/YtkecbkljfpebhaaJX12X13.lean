/- Texts joined. No conditions but those that are written. -/
import Derived.Test.YtkecbkljfpebhaaX9
import Derived.Test.YtkecbkljfpebhaaJX6X11
import Derived.Test.YtkecbkljfpebhaaJY4Y6
/- The settings of a name's rules, in order, both sides. No conditions but those that are written. -/
namespace Go.TL
set_option linter.unusedSimpArgs false
open Go.Proofs Go.RowKit
attribute [local irreducible] wpOpsT wpT EndT Ex.seq Ex.block W

theorem rules_mem {rules : List RuleV} (h : ∀ i, i < rules.length → ruleP (nth rules (i : Nat))) : ∀ r ∈ rules, ruleP r := fun r hr => by
  obtain ⟨i, hi, rfl⟩ := List.mem_iff_getElem.1 hr
  have := h i hi
  rwa [nth_nat hi] at this
theorem setRu_yes {name y : Int} {r : RuleV} (h : setQ name y r) : setRu name y r = [setV y r] := if_pos h
theorem setRu_no {name y : Int} {r : RuleV} (h : ¬ setQ name y r) : setRu name y r = [] := if_neg h

attribute [local go_sem] get_sh0 get_sh1

set_option linter.unusedSimpArgs false in
set_option maxHeartbeats 16000000 in
set_option maxHeartbeats 4000000 in
theorem impl_settingsOf (k0 k1 k2 : Nat) (rules : List RuleV) (zones : List ZoneV) (links : List LinkV) (name : Int) (hpre : rules.length ≤ 20 ∧ (∀ i, i < rules.length → ruleP (nth rules (i : Nat)))) : CallsT Try.prog [] F.impl_settingsOf [.agg [.sl false k0 rules.length 9 (rowT ruleC rules), .sl false k1 zones.length 3 (rowT zoneC zones), .sl false k2 links.length 2 (rowT linkC links)], .v (.int .i64 name)] (.sl false 0 (walls rules name).length 2 (rowT shiftC (walls rules name))) [] := by
  refine fnT C.impl_settingsOf ?_
  obtain ⟨hr, hR⟩ := hpre
  refine run ?_
  refine r_loop_of (σ := Nat) (fun n => [(1, .v (.int .i64 name)), (2, .ptr 0 [] 0), (5, .ref 1 [] 0 (setsN name rules n).length), (6, .v (.int .i64 (1970 + (n : Nat))))]) (fun n => [⟨0, true, [.sl false k0 rules.length 9 (rowT ruleC rules), .sl false k1 zones.length 3 (rowT zoneC zones), .sl false k2 links.length 2 (rowT linkC links)]⟩, ⟨2, true, rowT shiftC (setsN name rules n)⟩]) (fun n => n ≤ 68) (fun n => 68 - n) 0 [0, 1] [] (Nat.zero_le _) Gc.of ?_
  intro n hn
  refine run ?_
  refine r_ifd (fun hc => ?_) (fun hc => ?_)
  · rw [← setsJ_0]
    refine run ?_
    refine r_for rules.length (fun j => [(1, .v (.int .i64 name)), (2, .ptr 0 [] 0), (5, .ref 1 [] 0 (setsJ name rules n j).length), (6, .v (.int .i64 (1970 + (n : Nat)))), (17, .sl false k0 rules.length 9 (rowT ruleC rules)), (18, .v (.int .i64 rules.length)), (19, .v (.int .i64 j))]) (fun j => [⟨0, true, [.sl false k0 rules.length 9 (rowT ruleC rules), .sl false k1 zones.length 3 (rowT zoneC zones), .sl false k2 links.length 2 (rowT linkC links)]⟩, ⟨2, true, rowT shiftC (setsJ name rules n j)⟩]) (fun _ => True) [0, 1] [] trivial Gc.of (fun j hj _ => ?_) (fun _ => ?_)
    · have hrj := hR j hj
      have hS := setsJ_s name rules n hj
      have hb := onF_b (1970 + (n : Nat)) (nth rules (j : Nat)).month (nth rules (j : Nat)).kind (nth rules (j : Nat)).day (nth rules (j : Nat)).week
      have hat := hrj.2.2.2.2.2.2.1
      have hsl := setsJ_len name rules n j
      have hsl2 : (n + 1) * rules.length ≤ 69 * 20 := Nat.mul_le_mul (by omega) hr
      refine run ?_
      refine r_ifd (fun h => ?_) (fun h => ?_)
      · have hq : setQ name (1970 + (n : Nat)) (nth rules (j : Nat)) := ⟨⟨h.1.2, h.2.1, h.2.2⟩, h.1.1⟩
        rw [setRu_yes hq] at hS
        refine run ?_
        refine r_app (enc := shiftC) (setsJ name rules n j) [setV (1970 + (n : Nat)) (nth rules (j : Nat))] (by simp only [List.length_cons, List.length_nil]; omega) ?_
        rw [← hS]
        refine run ?_
        exact ⟨[0, 4], [], Gc.of, trivial⟩
      · have hq : ¬ setQ name (1970 + (n : Nat)) (nth rules (j : Nat)) := fun hh => h ⟨⟨hh.2, hh.1.1⟩, hh.1.2.1, hh.1.2.2⟩
        rw [setRu_no hq, List.append_nil] at hS
        rw [hS]
        refine run ?_
        exact ⟨[0, 1], [], Gc.of, trivial⟩
    · rw [setsJ_all]
      refine run ?_
      exact ⟨n + 1, [0, 1], [], Gc.of, by omega, by omega⟩
  · obtain rfl : n = 68 := by omega
    have hsl := setsN_len name rules 68
    have hs := sortStableX (setsN name rules 68) (by omega)
    rw [show srt (setsN name rules 68) = walls rules name from rfl] at hs
    have hwl : (setsN name rules 68).length = (walls rules name).length := (srt_len _).symm
    refine runC ?_
    refine r_calln [1] hs ?_
    rw [hwl]
    refine run ?_
    exact r_end [] [1]
instance (k0 k1 k2 : Nat) (rules : List RuleV) (zones : List ZoneV) (links : List LinkV) (name : Int) : Con Try.prog F.impl_settingsOf [.agg [.sl false k0 rules.length 9 (rowT ruleC rules), .sl false k1 zones.length 3 (rowT zoneC zones), .sl false k2 links.length 2 (rowT linkC links)], .v (.int .i64 name)] (rules.length ≤ 20 ∧ (∀ i, i < rules.length → ruleP (nth rules (i : Nat)))) (.sl false 0 (walls rules name).length 2 (rowT shiftC (walls rules name))) [] := ⟨fun h => impl_settingsOf k0 k1 k2 rules zones links name h⟩

end Go.TL

/- The settings of a name's rules, in order, by the reference. No conditions but those that are written. -/
namespace Go.TL
set_option linter.unusedSimpArgs false
open Go.Proofs Go.RowKit
attribute [local irreducible] wpOpsT wpT EndT Ex.seq Ex.block W

theorem get_sh00 {l : List ShiftV} {x : Int} (h : x.toNat < l.length) : (rowT shiftC l)[x.toNat * 2 + 0]? = some (.v (.int .i64 ((nth l x).at'))) := get_sh0 h
attribute [local go_sem] get_sh0 get_sh1 get_sh00

set_option linter.unusedSimpArgs false in
set_option maxHeartbeats 16000000 in
set_option maxHeartbeats 4000000 in
theorem spec_l13Walls (k0 k1 k2 : Nat) (rules : List RuleV) (zones : List ZoneV) (links : List LinkV) (name : Int) (hpre : rules.length ≤ 20 ∧ (∀ i, i < rules.length → ruleP (nth rules (i : Nat)))) : CallsT Try.prog [] F.spec_l13Walls [.agg [.sl false k0 rules.length 9 (rowT ruleC rules), .sl false k1 zones.length 3 (rowT zoneC zones), .sl false k2 links.length 2 (rowT linkC links)], .v (.int .i64 name)] (.sl false 0 (walls rules name).length 2 (rowT shiftC (walls rules name))) [] := by
  refine fnT C.spec_l13Walls ?_
  obtain ⟨hr, hR⟩ := hpre
  refine run ?_
  refine r_loop_of (σ := Nat) (fun n => [(1, .v (.int .i64 name)), (2, .ptr 0 [] 0), (5, .ref 1 [] 0 (srt (setsN name rules n)).length), (6, .v (.int .i64 (1970 + (n : Nat))))]) (fun n => [⟨0, true, [.sl false k0 rules.length 9 (rowT ruleC rules), .sl false k1 zones.length 3 (rowT zoneC zones), .sl false k2 links.length 2 (rowT linkC links)]⟩, ⟨2, true, rowT shiftC (srt (setsN name rules n))⟩]) (fun n => n ≤ 68) (fun n => 68 - n) 0 [0, 1] [] (Nat.zero_le _) Gc.of ?_
  intro n hn
  refine run ?_
  by_cases hc : n < 68
  · have hcc : (1970 : Int) + n ≤ 2037 := by omega
    refine r_ifd (fun _ => ?_) (fun hc2 => absurd hcc hc2)
    rw [← setsJ_0]
    refine run ?_
    refine r_for rules.length (fun j => [(1, .v (.int .i64 name)), (2, .ptr 0 [] 0), (5, .ref 1 [] 0 (srt (setsJ name rules n j)).length), (6, .v (.int .i64 (1970 + (n : Nat)))), (7, .v (.int .i64 j))]) (fun j => [⟨0, true, [.sl false k0 rules.length 9 (rowT ruleC rules), .sl false k1 zones.length 3 (rowT zoneC zones), .sl false k2 links.length 2 (rowT linkC links)]⟩, ⟨2, true, rowT shiftC (srt (setsJ name rules n j))⟩]) (fun _ => True) [0, 1] [] trivial Gc.of (fun j hj _ => ?_) (fun _ => ?_)
    · have hrj := hR j hj
      have hS := setsJ_s name rules n hj
      have hb := onF_b (1970 + (n : Nat)) (nth rules (j : Nat)).month (nth rules (j : Nat)).kind (nth rules (j : Nat)).day (nth rules (j : Nat)).week
      have hat := hrj.2.2.2.2.2.2.1
      have hsl := setsJ_len name rules n j
      have hsl2 : (n + 1) * rules.length ≤ 69 * 20 := Nat.mul_le_mul (by omega) hr
      have hsa := (srt_ok (setsJ name rules n j)).1
      have hsn := srt_len (setsJ name rules n j)
      refine run ?_
      refine r_ifd (fun h => ?_) (fun h => ?_)
      · have hq : ¬ setQ name (1970 + (n : Nat)) (nth rules (j : Nat)) := fun hh => by
          have h1 := hh.1
          rcases h with ((h | h) | h) | h
          · exact h h1.1
          · omega
          · omega
          · exact h hh.2
        rw [setRu_no hq, List.append_nil] at hS
        rw [hS]
        refine run ?_
        exact ⟨[0, 1], [], Gc.of, trivial⟩
      · have hq : setQ name (1970 + (n : Nat)) (nth rules (j : Nat)) := by
          have h1 := not_or.1 h
          have h2 := not_or.1 h1.1
          have h3 := not_or.1 h2.1
          exact ⟨⟨Decidable.not_not.1 h3.1, by omega, by omega⟩, Decidable.not_not.1 h1.2⟩
        rw [setRu_yes hq] at hS
        rw [hS, srt_s]
        have hxa : (setV (1970 + (n : Nat)) (nth rules (j : Nat))).at' = 1440 * onF (1970 + (n : Nat)) (nth rules (j : Nat)).month (nth rules (j : Nat)).kind (nth rules (j : Nat)).day (nth rules (j : Nat)).week + (nth rules (j : Nat)).at' := rfl
        have hxo : (setV (1970 + (n : Nat)) (nth rules (j : Nat))).off = (nth rules (j : Nat)).save := rfl
        refine run ?_
        generalize srt (setsJ name rules n j) = S at *
        generalize setV (1970 + (n : Nat)) (nth rules (j : Nat)) = x at *
        refine r_loop_of (σ := Nat) (fun k => [(1, .v (.int .i64 name)), (2, .ptr 0 [] 0), (5, .ref 1 [] 0 S.length), (6, .v (.int .i64 (1970 + (n : Nat)))), (7, .v (.int .i64 j)), (11, .ptr 3 [] 0), (12, .v (.int .i64 ((k : Nat))))]) (fun k => [⟨0, true, [.sl false k0 rules.length 9 (rowT ruleC rules), .sl false k1 zones.length 3 (rowT zoneC zones), .sl false k2 links.length 2 (rowT linkC links)]⟩, ⟨2, true, rowT shiftC S⟩, ⟨9, false, []⟩, ⟨0, true, [.v (.int .i64 (x.at')), .v (.int .i64 x.off)]⟩]) (fun k => k ≤ S.length ∧ ∀ y ∈ S.drop k, x.at' < y.at') (fun k => k) S.length [0, 1, 2, 3] [] ⟨Nat.le_refl _, fun y hy => by rw [List.drop_length] at hy; exact absurd hy List.not_mem_nil⟩ Gc.of ?_
        rintro k ⟨hk1, hk2⟩
        refine run ?_
        refine r_ifd (fun h5 => ?_) (fun h5 => ?_)
        · obtain ⟨k, rfl⟩ : ∃ i, k = i + 1 := ⟨k - 1, by omega⟩
          have h6 := h5.2
          rw [show ((k + 1 : Nat) : Int) - 1 = (k : Nat) by omega] at h6
          refine run ?_
          refine ⟨k, [0, 1, 2, 3], [], Gc.of, by omega, by omega, fun y hy => ?_⟩
          rw [List.drop_eq_getElem_cons (by omega), ← nth_nat (by omega)] at hy
          rcases List.mem_cons.1 hy with rfl | hy
          · exact h6
          · exact hk2 y hy
        · have hins : insW S x = S.take k ++ x :: S.drop k := ins_place (fun y hy => by
            obtain ⟨i, hi1, hi2, rfl⟩ := mem_take hy
            have h6 : ¬ x.at' < (nth S ((k : Int) - 1)).at' := fun hh => h5 ⟨by omega, hh⟩
            have := asc_nth hsa (show i ≤ k - 1 by omega) (by omega)
            rw [show ((k - 1 : Nat) : Int) = (k : Int) - 1 by omega] at this
            omega) hk2
          have hins2 : insW S x = S.take k ++ [x] ++ S.drop k := by rw [hins, List.append_assoc]; rfl
          have lt : (S.take k).length = k := by rw [List.length_take]; omega
          have ldr : (S.drop k).length = S.length - k := List.length_drop ..
          have hSb : S.length ≤ 2000 := by omega
          rw [hins2]
          refine r_gc [(1, .v (.int .i64 name)), (2, .ptr 0 [] 0), (5, .sl false 0 S.length 2 (rowT shiftC S)), (6, .v (.int .i64 (1970 + (n : Nat)))), (7, .v (.int .i64 j)), (11, .ptr 1 [] 0), (12, .v (.int .i64 ((k : Nat))))] [⟨0, true, [.sl false k0 rules.length 9 (rowT ruleC rules), .sl false k1 zones.length 3 (rowT zoneC zones), .sl false k2 links.length 2 (rowT linkC links)]⟩, ⟨0, true, [.v (.int .i64 (x.at')), .v (.int .i64 x.off)]⟩] [0, 3] [1] Gc.of ?_
          refine run ?_
          refine r_app (enc := shiftC) [] (S.take k) (by simp only [List.length_nil]; omega) ?_
          rw [List.nil_append]
          refine run ?_
          exact ⟨[0, 6], [], Gc.of, trivial⟩
    · rw [setsJ_all]
      refine run ?_
      exact ⟨n + 1, [0, 1], [], Gc.of, by omega, by omega⟩
  · obtain rfl : n = 68 := by omega
    rw [show srt (setsN name rules 68) = walls rules name from rfl]
    refine run ?_
    exact r_end [] [1]
instance (k0 k1 k2 : Nat) (rules : List RuleV) (zones : List ZoneV) (links : List LinkV) (name : Int) : Con Try.prog F.spec_l13Walls [.agg [.sl false k0 rules.length 9 (rowT ruleC rules), .sl false k1 zones.length 3 (rowT zoneC zones), .sl false k2 links.length 2 (rowT linkC links)], .v (.int .i64 name)] (rules.length ≤ 20 ∧ (∀ i, i < rules.length → ruleP (nth rules (i : Nat)))) (.sl false 0 (walls rules name).length 2 (rowT shiftC (walls rules name))) [] := ⟨fun h => spec_l13Walls k0 k1 k2 rules zones links name h⟩

end Go.TL
