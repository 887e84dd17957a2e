/- The calendar in plain words. No conditions but those that are written. -/
import Derived.Test.YtkecbkljfpebhaaX1
namespace Go.TL
set_option linter.unusedSimpArgs false
open Go.Proofs Go.RowKit
attribute [local irreducible] wpOpsT wpT EndT Ex.seq Ex.block W

def yearP (y : Int) : Prop := 1900 ≤ y ∧ y ≤ 2200
instance (y : Int) : Decidable (yearP y) := inferInstanceAs (Decidable (_ ∧ _))
def leapP (y : Int) : Prop := (y % 4 = 0 ∧ ¬ y % 100 = 0) ∨ y % 400 = 0
instance (y : Int) : Decidable (leapP y) := inferInstanceAs (Decidable (_ ∨ _))
/-- How long a year is, and a month of one. -/
def yearL (y : Int) : Int := if leapP y then 366 else 365
def longM (y m : Int) : Int := if m = 2 then (if leapP y then 29 else 28) else if m = 4 ∨ m = 6 ∨ m = 9 ∨ m = 11 then 30 else 31
def monthP (y m : Int) : Prop := yearP y ∧ 1 ≤ m ∧ m ≤ 12
instance (y m : Int) : Decidable (monthP y m) := inferInstanceAs (Decidable (_ ∧ _))
def monthL (y m : Int) : Int := if monthP y m then longM y m else 0
/-- The first day of a year; of a month, counted from that. -/
def begY (y : Int) : Int := 365 * (y - 1970) + ((y - 1) / 4 - (y - 1) / 100 + (y - 1) / 400) - 477
def begM (y : Int) : Nat → Int
  | 0 => 0
  | k + 1 => begM y k + longM y (k + 1)
def dayV (y m d : Int) : Int := begY y + begM y (m - 1).toNat + d - 1
def dayP (y m d : Int) : Prop := 1 ≤ d ∧ d ≤ monthL y m
instance (y m d : Int) : Decidable (dayP y m d) := inferInstanceAs (Decidable (_ ∧ _))
def dayF (y m d : Int) : Int := if dayP y m d then dayV y m d else 0
def weekV (d : Int) : Int := (d + 4) % 7

theorem begY_70 : begY 1970 = 0 := by decide
theorem begY_s (y : Int) : begY (y + 1) = begY y + yearL y := by
  unfold begY yearL
  by_cases h : leapP y
  · rw [if_pos h]
    unfold leapP at h
    omega
  · rw [if_neg h]
    unfold leapP at h
    omega
theorem begY_p (y : Int) : begY y = begY (y - 1) + yearL (y - 1) := by
  have := begY_s (y - 1)
  rwa [show y - 1 + 1 = y by omega] at this
theorem begY_b {y : Int} (h : 1900 ≤ y ∧ y ≤ 2201) : -25567 ≤ begY y ∧ begY y ≤ 84371 := by
  unfold begY
  omega
theorem begY_mono {y z : Int} (h : y ≤ z) : begY y ≤ begY z := by
  unfold begY
  omega
theorem longM_b (y m : Int) : 28 ≤ longM y m ∧ longM y m ≤ 31 := by
  unfold longM
  split
  · split <;> omega
  · split <;> omega
theorem yearL_b (y : Int) : 365 ≤ yearL y ∧ yearL y ≤ 366 := by
  unfold yearL
  split <;> omega
theorem monthL_b (y m : Int) : 0 ≤ monthL y m ∧ monthL y m ≤ 31 := by
  have := longM_b y m
  unfold monthL
  split <;> omega
theorem monthL_at {y m : Int} (h : monthP y m) : monthL y m = longM y m := if_pos h
theorem monthL_no {y m : Int} (h : ¬ monthP y m) : monthL y m = 0 := if_neg h
theorem monthL_0 {y m : Int} : monthL y m = 0 ↔ ¬ monthP y m := by
  have := longM_b y m
  unfold monthL
  split <;> rename_i h
  · exact ⟨fun e => by omega, fun e => absurd h e⟩
  · exact ⟨fun _ => h, fun _ => rfl⟩
theorem begM_b (y : Int) : ∀ k : Nat, 28 * (k : Int) ≤ begM y k ∧ begM y k ≤ 31 * (k : Int)
  | 0 => by simp [begM]
  | k + 1 => by
    have h1 := begM_b y k
    have h2 := longM_b y (k + 1)
    rw [begM]
    push_cast
    omega
theorem begM_12 (y : Int) : begM y 12 = yearL y := by
  unfold yearL
  simp only [begM]
  by_cases h : leapP y
  · simp [longM, h]
  · simp [longM, h]
theorem dayP_m {y m d : Int} (h : dayP y m d) : monthP y m := by
  unfold dayP at h
  unfold monthL at h
  split at h <;> rename_i hm
  · exact hm
  · omega
theorem dayV_b {y m d : Int} (h : dayP y m d) : -26000 ≤ dayV y m d ∧ dayV y m d ≤ 90000 := by
  have hm := dayP_m h
  have h1 := begY_b (y := y) ⟨hm.1.1, by have := hm.1.2; omega⟩
  have h2 := begM_b y (m - 1).toNat
  have h3 := monthL_b y m
  have h4 := hm.2
  unfold dayP at h
  unfold dayV
  omega
theorem dayF_b (y m d : Int) : -26000 ≤ dayF y m d ∧ dayF y m d ≤ 90000 := by
  unfold dayF
  split
  · rename_i h; exact dayV_b h
  · omega
theorem tmod7 (d : Int) : (d.tmod 7 = d % 7 ∨ d.tmod 7 = d % 7 - 7) ∧ -7 < d.tmod 7 ∧ d.tmod 7 < 7 := by
  rcases Int.le_total 0 d with h | h
  · rw [Int.tmod_eq_emod_of_nonneg h]; omega
  · obtain ⟨n, rfl⟩ : ∃ n, d = -n := ⟨-d, by omega⟩
    rw [Int.neg_tmod, Int.tmod_eq_emod_of_nonneg (by omega)]; omega

/-- The day of a month that a rule tells. -/
def onP (k d w : Int) : Prop := (k = 1 ∧ (1 ≤ d ∧ d ≤ 31) ∧ w = 0) ∨ (k = 2 ∧ d = 0 ∧ 0 ≤ w ∧ w ≤ 6) ∨ (k = 3 ∧ (1 ≤ d ∧ d ≤ 31) ∧ 0 ≤ w ∧ w ≤ 6)
instance (k d w : Int) : Decidable (onP k d w) := inferInstanceAs (Decidable (_ ∨ _))
def lastD (y m : Int) : Int := dayV y m (monthL y m)
def onD (y m k d w : Int) : Int :=
  if k = 2 then lastD y m - (lastD y m + 4 - w) % 7
  else if k = 3 then dayV y m d + (w - (dayV y m d + 4)) % 7
  else dayV y m d
def onY (y m k d w : Int) : Prop := onP k d w ∧ monthP y m ∧ d ≤ monthL y m ∧ onD y m k d w ≤ lastD y m
instance (y m k d w : Int) : Decidable (onY y m k d w) := inferInstanceAs (Decidable (_ ∧ _))
def onF (y m k d w : Int) : Int := if onY y m k d w then onD y m k d w else 0
theorem lastD_p {y m : Int} (h : monthP y m) : dayP y m (monthL y m) := by
  have := longM_b y m
  rw [dayP, monthL_at h]
  omega
theorem onF_b (y m k d w : Int) : -27000 ≤ onF y m k d w ∧ onF y m k d w ≤ 90000 := by
  unfold onF
  split
  · rename_i h
    have h1 := dayV_b (lastD_p h.2.1)
    have h2 := h.2.2.2
    have h3 : k ≠ 2 → dayP y m d := fun hk => ⟨by rcases h.1 with h | h | h <;> omega, h.2.2.1⟩
    have e : lastD y m = dayV y m (monthL y m) := rfl
    unfold onD at h2 ⊢
    split at h2 <;> rename_i hk
    · rw [if_pos hk]; omega
    · have := dayV_b (h3 hk)
      rw [if_neg hk]
      split at h2 <;> rename_i hk3
      · rw [if_pos hk3]; omega
      · rw [if_neg hk3]; omega
  · omega

end Go.TL
