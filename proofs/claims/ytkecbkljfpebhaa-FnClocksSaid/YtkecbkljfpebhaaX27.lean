/- A zone is told by its own name; tables of zones as calls find them. No conditions but those that are written. -/
import Derived.Test.YtkecbkljfpebhaaX15
import Derived.Test.YtkecbkljfpebhaaX17
import Derived.Test.YtkecbkljfpebhaaX26
namespace Go.TL
set_option linter.unusedSimpArgs false
open Go.Proofs Go.RowKit
attribute [local irreducible] wpOpsT wpT EndT Ex.seq Ex.block W

theorem zone_asc {rules : List RuleV} {zones : List ZoneV} (h : ∀ i, i < zones.length → zoneQ rules zones i) : ∀ {i j : Nat}, i < j → j < zones.length → (nth zones (i : Nat)).name < (nth zones (j : Nat)).name := by
  intro i j hij hj
  induction j with
  | zero => omega
  | succ j ih =>
    have h1 := (h (j + 1) hj).2.1
    rw [show (((j + 1 : Nat) : Int) - 1) = (j : Nat) by omega] at h1
    have h2 : (nth zones (j : Nat)).name < (nth zones ((j + 1 : Nat) : Int)).name := Int.not_le.1 fun hh => h1 ⟨by omega, hh⟩
    rcases Nat.eq_or_lt_of_le (show i ≤ j by omega) with rfl | h3
    · exact h2
    · have := ih h3 (by omega)
      omega
theorem zone_self {rules : List RuleV} {zones : List ZoneV} {links : List LinkV} (h : srcP rules zones links) {i : Nat} (hi : i < zones.length) : zonO rules zones links (nth zones (i : Nat)).name ∧ zonV rules zones links (nth zones (i : Nat)).name = nth zones (i : Nat) := by
  have hf : findZo zones (nth zones (i : Nat)).name = i := findZo_at hi rfl fun j hj e => by
    have := zone_asc h.2.2.1 hj hi
    omega
  have hl : findLi links (nth zones (i : Nat)).name = -1 := findLi_no fun j hj e => by
    have h1 := (h.2.2.2 j hj).2.2.2
    rw [e, hf] at h1
    omega
  have hz : zname links (nth zones (i : Nat)).name = (nth zones (i : Nat)).name := by rw [zname, hl, if_neg (by omega)]
  have ho : zonO rules zones links (nth zones (i : Nat)).name := ⟨h, by rw [hz, hf]; omega⟩
  refine ⟨ho, ?_⟩
  rw [zonV_yes ho, hz, hf]
/-- A zone without rules has one offset. -/
theorem zone_0 {rules : List RuleV} {zones : List ZoneV} {links : List LinkV} {n : Int} (h : zonO rules zones links n) (h0 : (zonV rules zones links n).rule = 0) : ztO rules zones links n ∧ ztS rules zones links n = [] := by
  have hz := zon_ok h
  have ht : tabV (zonV rules zones links n).off (walls rules (zonV rules zones links n).rule) = some [] := by
    rw [h0, walls_0 h.1.2.1]
    exact (tabV_some rfl).trans (if_pos (tableP_nil hz.2.1))
  have := zt_some h ht
  exact ⟨of_decide_eq_true this.2.2, this.2.1⟩

instance con_zt_impl (k0 k1 k2 : Nat) (rules : List RuleV) (zones : List ZoneV) (links : List LinkV) (n : Int) : Con Try.prog F.impl_ZoneTable [.agg [.sl false k0 rules.length 9 (rowT ruleC rules), .sl false k1 zones.length 3 (rowT zoneC zones), .sl false k2 links.length 2 (rowT linkC links)], .v (.int .i64 n)] (rules.length ≤ 1048576 ∧ zones.length ≤ 1048576 ∧ links.length ≤ 1048576) (.tup [.agg [.v (.int .i64 (ztF rules zones links n)), .sl false 0 (ztS rules zones links n).length 2 (rowT shiftC (ztS rules zones links n))], .v (.bool (decide (ztO rules zones links n)))]) [] := ⟨fun h => impl_ZoneTableZ k0 k1 k2 rules zones links n h⟩
instance con_zt_spec (k0 k1 k2 : Nat) (rules : List RuleV) (zones : List ZoneV) (links : List LinkV) (n : Int) : Con Try.prog F.spec_ZoneTable [.agg [.sl false k0 rules.length 9 (rowT ruleC rules), .sl false k1 zones.length 3 (rowT zoneC zones), .sl false k2 links.length 2 (rowT linkC links)], .v (.int .i64 n)] (rules.length ≤ 1048576 ∧ zones.length ≤ 1048576 ∧ links.length ≤ 1048576) (.tup [.agg [.v (.int .i64 (ztF rules zones links n)), .sl false 0 (ztS rules zones links n).length 2 (rowT shiftC (ztS rules zones links n))], .v (.bool (decide (ztO rules zones links n)))]) [] := ⟨fun h => spec_ZoneTableZ k0 k1 k2 rules zones links n h⟩

set_option maxHeartbeats 4000000 in
theorem laws_big__x (k : Nat) (l : List Int) : CallsT Try.prog [] F.laws_big [.sl false k l.length 1 (rowT u8C l)] (.v (.bool (decide (1048576 < (l.length : Int))))) [] := by
  refine fnT C.laws_big ?_
  refine run ?_
  exact r_end [] []
instance (k : Nat) (l : List Int) : Con Try.prog F.laws_big [.sl false k l.length 1 (rowT u8C l)] True (.v (.bool (decide (1048576 < (l.length : Int))))) [] := ⟨fun _ => laws_big__x k l⟩

/-- What a law takes of its bytes. -/
def atX (l : List Int) : Int := if 1 < (l.length : Int) then nth l 1 else (7 + l.length) % 256
theorem atX_b {l : List Int} (h : ∀ x ∈ l, 0 ≤ x ∧ x < 256) : 0 ≤ atX l ∧ atX l < 256 := by
  unfold atX
  split
  · have := h _ (nth_mem (l := l) (i := 1) (by omega))
    exact this
  · omega

set_option maxHeartbeats 4000000 in
theorem laws_at__x (k : Nat) (l : List Int) (hpre : (∀ x ∈ l, 0 ≤ x ∧ x < 256) ∧ l.length ≤ 140737488351232) : CallsT Try.prog [] F.laws_at [.sl false k l.length 1 (rowT u8C l), .v (.int .i64 1)] (.v (.int .i64 (atX l))) [] := by
  refine fnT C.laws_at ?_
  obtain ⟨hb, hl⟩ := hpre
  refine run ?_
  refine r_ifd (fun h => ?_) (fun h => ?_)
  · have hn := hb _ (nth_mem (l := l) (i := 1) (by omega))
    have hn : 0 ≤ nth l 1 ∧ nth l 1 < 256 := hn
    rw [show atX l = nth l 1 from if_pos h]
    refine run ?_
    exact r_end [] []
  · rw [show atX l = (7 + l.length) % 256 from if_neg h]
    refine run ?_
    exact r_end [] []
instance (k : Nat) (l : List Int) : Con Try.prog F.laws_at [.sl false k l.length 1 (rowT u8C l), .v (.int .i64 1)] ((∀ x ∈ l, 0 ≤ x ∧ x < 256) ∧ l.length ≤ 140737488351232) (.v (.int .i64 (atX l))) [] := ⟨fun h => laws_at__x k l h⟩

end Go.TL
