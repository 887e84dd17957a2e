/- Between the shifts of a table: plain. No conditions but those that are written. -/
import Derived.Test.YtkecbkljfpebhaaX25
import Derived.Test.YtkecbkljfpebhaaX19
namespace Go.TL
set_option linter.unusedSimpArgs false
open Go.Proofs Go.RowKit
attribute [local irreducible] wpOpsT wpT EndT Ex.seq Ex.block W

/-- Shifts are in order. -/
theorem tab_asc {f : Int} {l : List ShiftV} (h : tableP f l) : ∀ {i j : Nat}, i < j → j < l.length → (nth l (i : Nat)).at' < (nth l (j : Nat)).at' := by
  intro i j hij hj
  induction j with
  | zero => omega
  | succ j ih =>
    have h1 := (h.2.2 (j + 1) hj).2.1
    rw [show (((j + 1 : Nat) : Int) - 1) = (j : Nat) by omega] at h1
    have h2 : (nth l (j : Nat)).at' < (nth l ((j + 1 : Nat) : Int)).at' := Int.not_le.1 fun hh => h1 ⟨by omega, hh⟩
    rcases Nat.eq_or_lt_of_le (show i ≤ j by omega) with rfl | h3
    · exact h2
    · have := ih h3 (by omega)
      omega
/-- What is ahead at a minute: the last shift that is not later. -/
theorem atF_at {f : Int} {l : List ShiftV} (m : Int) {i : Nat} (hi : i ≤ l.length) (h1 : i = 0 ∨ (nth l ((i : Int) - 1)).at' ≤ m) (h2 : ∀ j : Nat, i ≤ j → j < l.length → m < (nth l (j : Nat)).at') : ∀ k, i ≤ k → k ≤ l.length → atF f l m k = offB f l i := by
  intro k hk hkl
  induction k with
  | zero =>
    obtain rfl : i = 0 := by omega
    rfl
  | succ k ih =>
    rcases Nat.eq_or_lt_of_le hk with rfl | hlt
    · rcases h1 with h1 | h1
      · omega
      · rw [offB_s]
        rw [show (((k + 1 : Nat) : Int) - 1) = (k : Nat) by omega] at h1
        exact if_pos h1
    · have := h2 k (by omega) (by omega)
      rw [atF, if_neg (by omega)]
      exact ih (by omega) (by omega)
theorem tabAt_at {f : Int} {l : List ShiftV} (h : tableP f l) (m : Int) {i : Nat} (hi : i ≤ l.length) (h1 : i = 0 ∨ (nth l ((i : Int) - 1)).at' ≤ m) (h2 : i = l.length ∨ m < (nth l (i : Nat)).at') : tabAt f l m = offB f l i := by
  rw [tabAt, if_pos h]
  refine atF_at m hi h1 (fun j hj hjl => ?_) l.length hi (Nat.le_refl _)
  rcases h2 with h2 | h2
  · omega
  · rcases Nat.eq_or_lt_of_le hj with rfl | hlt
    · exact h2
    · have := tab_asc h hlt hjl
      omega
/-- At a shift and a minute ahead of it. -/
theorem tabAt_shift {f : Int} {l : List ShiftV} (h : tableP f l) {i : Nat} (hi : i < l.length) : tabAt f l (nth l (i : Nat)).at' = (nth l (i : Nat)).off ∧ tabAt f l ((nth l (i : Nat)).at' - 1) = offB f l i := by
  constructor
  · rw [tabAt_at h _ (i := i + 1) hi (.inr (by rw [show (((i + 1 : Nat) : Int) - 1) = (i : Nat) by omega]; exact Int.le_refl _)) ?_, offB_s]
    rcases Nat.eq_or_lt_of_le (show i + 1 ≤ l.length from hi) with h' | h'
    · exact .inl h'
    · exact .inr (tab_asc h (by omega) h')
  · refine tabAt_at h _ (i := i) (by omega) ?_ (.inr (by omega))
    rcases Nat.eq_zero_or_pos i with h' | h'
    · exact .inl h'
    · refine .inr ?_
      have := tab_asc h (show i - 1 < i by omega) hi
      rw [show ((i - 1 : Nat) : Int) = (i : Int) - 1 by omega] at this
      omega

/-- Settings are of the years 1970 to 2037. -/
def setB2 (x : ShiftV) : Prop := 0 ≤ x.at' ∧ x.at' < 1440 * 24837 ∧ 0 ≤ x.off ∧ x.off ≤ 180
theorem onF_year {y m k d w : Int} (h : onY y m k d w) : begY y ≤ onF y m k d w ∧ onF y m k d w < begY (y + 1) := by
  have hm := h.2.1
  have hl := lastD_p hm
  have h12 := begM_mono y (show ((m - 1).toNat + 1) ≤ 12 by have := hm.2; omega)
  rw [begM_12] at h12
  have hs : begM y ((m - 1).toNat + 1) = begM y (m - 1).toNat + longM y m := by
    rw [begM, show (((m - 1).toNat : Nat) : Int) + 1 = m by have := hm.2; omega]
  have hml := monthL_at hm
  have hys := begY_s y
  have hup : lastD y m < begY (y + 1) := by unfold lastD dayV; omega
  have h0 := (begM_b y (m - 1).toNat).1
  have hlo : ∀ d', 1 ≤ d' → begY y ≤ dayV y m d' := fun d' hd => by unfold dayV; omega
  have hln := longM_b y m
  rw [show onF y m k d w = onD y m k d w from if_pos h]
  have hle := h.2.2.2
  refine ⟨?_, by omega⟩
  have h1 := h.1
  unfold onD
  have e : lastD y m = dayV y m (monthL y m) := rfl
  split
  · have h7 : begY y + 7 ≤ lastD y m := by unfold lastD dayV; omega
    omega
  · have := hlo d (by rcases h1 with h | h | h <;> omega)
    split <;> omega
theorem setY_b2 {name y : Int} {l : List RuleV} (hy : 1970 ≤ y ∧ y ≤ 2037) (h : ∀ r ∈ l, ruleP r) : ∀ x ∈ setY name y l, setB2 x := by
  intro x hx
  obtain ⟨r, hr, hx⟩ := List.mem_flatMap.1 hx
  unfold setRu at hx
  split at hx
  · rename_i hq
    rw [List.mem_singleton] at hx
    subst hx
    have h1 := h r hr
    have h2 := onF_year hq.2
    have h3 := h1.2.2.2.2.2.2
    have h4 := begY_mono hy.1
    have h5 := begY_mono (show y + 1 ≤ 2038 by omega)
    have e0 := begY_70
    have e1 : begY 2038 = 24837 := by decide
    unfold setB2 setV
    dsimp only
    omega
  · simp at hx
theorem setsN_b2 {name : Int} {l : List RuleV} (h : ∀ r ∈ l, ruleP r) : ∀ n, n ≤ 68 → ∀ x ∈ setsN name l n, setB2 x
  | 0, _, x, hx => by simp [setsN] at hx
  | n + 1, hn, x, hx => (List.mem_append.1 hx).elim (setsN_b2 h n (by omega) x) (setY_b2 (by omega) h x)
theorem walls_b2 {l : List RuleV} {name : Int} (h : ∀ r ∈ l, ruleP r) : ∀ x ∈ walls l name, setB2 x := fun x hx =>
  setsN_b2 h 68 (Nat.le_refl _) x (sameK_mem (sameK_sy (srt_ok _).2) hx)
/-- What shifts are within. -/
theorem tabL_b {z : Int} (hz : -900 ≤ z ∧ z ≤ 900) : ∀ (w : List ShiftV) (f : Bool) (s t : Int) (o r : List ShiftV), (∀ x ∈ w, setB2 x) → 0 ≤ s ∧ s ≤ 180 → (∀ x ∈ o, -1080 ≤ x.at' ∧ x.at' + x.off ≤ 35765460 ∧ -180 ≤ x.at' + x.off) → tabL z w f s t o = some r → ∀ x ∈ r, -1080 ≤ x.at' ∧ x.at' + x.off ≤ 35765460 ∧ -180 ≤ x.at' + x.off
  | [], f, s, t, o, r, _, _, ho, h => by
    simp only [tabL, Option.some.injEq] at h
    subst h
    exact ho
  | a :: w, f, s, t, o, r, hw, hs, ho, h => by
    have ha := hw a (List.mem_cons_self ..)
    unfold setB2 at ha
    unfold tabL at h
    split at h
    · cases h
    · refine tabL_b hz w false a.off _ _ r (fun x hx => hw x (List.mem_cons_of_mem _ hx)) ⟨ha.2.2.1, ha.2.2.2⟩ ?_ h
      split
      · exact ho
      · intro x hx
        rcases List.mem_append.1 hx with hx | hx
        · exact ho x hx
        · rw [List.mem_singleton] at hx
          subst hx
          dsimp only
          omega
theorem zt_b {rules : List RuleV} {zones : List ZoneV} {links : List LinkV} {n : Int} (h : ztO rules zones links n) : ∀ x ∈ ztS rules zones links n, -1080 ≤ x.at' ∧ x.at' + x.off ≤ 35765460 ∧ -180 ≤ x.at' + x.off := by
  have hy := zt_yes h
  have hz := zon_ok hy.1
  exact tabL_b hz.2.1 _ true 0 0 [] _ (walls_b2 (rules_mem hy.1.1.2.1)) (by omega) (fun x hx => by simp at hx) (tabV_p hy.2.1).2

end Go.TL
