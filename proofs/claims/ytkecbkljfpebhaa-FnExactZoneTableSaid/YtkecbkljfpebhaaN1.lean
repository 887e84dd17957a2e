/- Decimal numerals, plain: what is read from its own text. No conditions. -/
import Derived.Test.YtkecbkljfpebhaaTSto
import Derived.Lib.ItoaNum
import Derived.Lib.AtoiAll
namespace Go.TL
set_option linter.unusedSimpArgs false
open Go.RowKit
open Go.Lib (itoa decDigits nDigits parseUint10 parseMag atoiAll NumEnd)

theorem strOf_size (l : List Int) : (strOfT l).size = l.length := by
  show (l.map fun n => UInt8.ofNat n.toNat).toArray.size = _
  simp

theorem ba_size0 (s : ByteArray) : (s.size : Int) = 0 ↔ s = ⟨#[]⟩ := by
  constructor
  · intro h
    obtain ⟨a⟩ := s
    have : a.size = 0 := by
      have : (ByteArray.mk a).size = a.size := rfl
      omega
    rw [Array.eq_empty_of_size_eq_zero this]
  · rintro rfl; rfl
@[go_sem] theorem convB_1 (e : Nat) (a : Int) : convB (some (e, [.v (.int .u8 a)])) 0 1 = some (strOfT [a]) := rfl

/-- A number's text. -/
def itoaB (n : Int) : ByteArray := ⟨(itoa n).toArray⟩
def valD (acc : Nat) : List UInt8 → Nat
  | [] => acc
  | c :: r => valD (acc * 10 + (c.toNat - 48)) r
theorem valD_app : ∀ (a b : List UInt8) (acc : Nat), valD acc (a ++ b) = valD (valD acc a) b
  | [], _, _ => rfl
  | _ :: a, b, _ => valD_app a b _
theorem valD_ge : ∀ (l : List UInt8) (acc : Nat), acc ≤ valD acc l
  | [], _ => Nat.le_refl _
  | _ :: l, acc => Nat.le_trans (by omega) (valD_ge l _)
theorem u8_dig {k : Nat} (h : k < 10) : (UInt8.ofNat (48 + k)).toNat = 48 + k := by
  show (48 + k) % 256 = 48 + k
  omega
theorem valD_1 (acc : Nat) (c : UInt8) : valD acc [c] = acc * 10 + (c.toNat - 48) := rfl
theorem dec_val (u : Nat) : valD 0 (decDigits u) = u := by
  induction u using Nat.strongRecOn with
  | _ u ih =>
    by_cases h : u < 10
    · rw [decDigits, dif_pos h, valD_1, u8_dig h]; omega
    · rw [decDigits, dif_neg h, valD_app, ih (u / 10) (by omega), valD_1, u8_dig (Nat.mod_lt u (by decide))]; omega
def digC (c : UInt8) : Prop := 48 ≤ c.toNat ∧ c.toNat ≤ 57
instance (c : UInt8) : Decidable (digC c) := inferInstanceAs (Decidable (_ ∧ _))
theorem dec_dig (u : Nat) : ∀ c ∈ decDigits u, digC c := by
  induction u using Nat.strongRecOn with
  | _ u ih =>
    intro c hc
    by_cases h : u < 10
    · rw [decDigits, dif_pos h, List.mem_singleton] at hc
      subst hc
      unfold digC
      rw [u8_dig h]; omega
    · rw [decDigits, dif_neg h, List.mem_append, List.mem_singleton] at hc
      rcases hc with hc | rfl
      · exact ih (u / 10) (by omega) c hc
      · unfold digC
        rw [u8_dig (Nat.mod_lt u (by decide))]; omega
theorem dec_len (u : Nat) : (decDigits u).length = nDigits u := Lib.decDigits_length u
theorem dec_ne (u : Nat) : ∃ c r, decDigits u = c :: r ∧ digC c := by
  have h1 := dec_len u
  have h2 := Lib.nDigits_pos u
  cases hd : decDigits u with
  | nil => rw [hd] at h1; simp at h1; omega
  | cons c r => exact ⟨c, r, rfl, dec_dig u c (by rw [hd]; exact List.mem_cons_self)⟩
theorem dec_lt {u k : Nat} (h : (decDigits u).length ≤ k) : u < 10 ^ k := by
  rw [dec_len] at h
  exact Nat.lt_of_lt_of_le (Lib.lt_pow_nDigits u) (Nat.pow_le_pow_right (by decide) h)

/-- Is there a sign? -/
def negC (l : List UInt8) : Bool := match l with
  | c :: _ => c.toNat == 45
  | [] => false
def magL (l : List UInt8) : List UInt8 := if negC l = true then l.drop 1 else l
def numV (l : List UInt8) : Int := if negC l = true then -(valD 0 (magL l) : Int) else (valD 0 (magL l) : Int)
theorem itoa_parts (n : Int) : negC (itoa n) = decide (n < 0) ∧ magL (itoa n) = decDigits n.natAbs := by
  by_cases h : n < 0
  · have e : itoa n = 45 :: decDigits n.natAbs := if_pos h
    rw [e]
    exact ⟨by simp [negC, h], by simp [magL, negC]⟩
  · have e : itoa n = decDigits n.toNat := if_neg h
    obtain ⟨c, r, h1, h2⟩ := dec_ne n.toNat
    rw [e, h1]
    have h3 : negC (c :: r) = false := by
      unfold digC at h2
      simp [negC]; intro hc
      have : c.toNat = 45 := by rw [hc]
      omega
    refine ⟨by simp [h3, h], ?_⟩
    rw [magL, h3, if_neg (by decide), ← h1, show n.natAbs = n.toNat by omega]
theorem numV_itoa (n : Int) : numV (itoa n) = n := by
  obtain ⟨h1, h2⟩ := itoa_parts n
  rw [numV, h1, h2, dec_val]
  by_cases h : n < 0
  · simp [h]; omega
  · simp [h]; omega
theorem itoa_inj {a b : Int} (h : itoa a = itoa b) : a = b := by rw [← numV_itoa a, h, numV_itoa]

/-- A text that is a number's own, of at most so many digits. -/
def numOkL (l : List UInt8) (most : Nat) : Prop := itoa (numV l) = l ∧ (magL l).length ≤ most
instance (l : List UInt8) (most : Nat) : Decidable (numOkL l most) := inferInstanceAs (Decidable (_ ∧ _))
def numOk (s : ByteArray) (most : Nat) : Prop := numOkL s.data.toList most
instance (s : ByteArray) (most : Nat) : Decidable (numOk s most) := inferInstanceAs (Decidable (numOkL _ _))
def numB (s : ByteArray) (most : Nat) : Int := if numOk s most then numV s.data.toList else 0
theorem numOk_mag {l : List UInt8} {most : Nat} (h : numOkL l most) : magL l = decDigits (numV l).natAbs ∧ negC l = decide (numV l < 0) := by
  have := itoa_parts (numV l)
  rw [h.1] at this
  exact ⟨this.2, this.1⟩
theorem numOk_b {l : List UInt8} {most : Nat} (h : numOkL l most) : (numV l).natAbs < 10 ^ most := by
  have := (numOk_mag h).1
  exact dec_lt (by rw [← this]; exact h.2)

theorem parse_val : ∀ (l : List UInt8) (acc : Nat), (∀ c ∈ l, digC c) → valD acc l < 18446744073709551616 → parseUint10 acc l = .ok (valD acc l)
  | [], _, _, _ => rfl
  | c :: r, acc, hd, hv => by
    have h1 := hd c List.mem_cons_self
    have h2 := valD_ge r (acc * 10 + (c.toNat - 48))
    have hv' : valD (acc * 10 + (c.toNat - 48)) r < 18446744073709551616 := hv
    unfold digC at h1
    rw [parseUint10, if_pos h1, if_neg (by omega), if_neg (by omega)]
    exact parse_val r _ (fun x hx => hd x (List.mem_cons_of_mem _ hx)) hv
theorem atoi_itoa {n : Int} (h0 : -9223372036854775808 ≤ n) (h1 : n ≤ 9223372036854775807) : atoiAll (itoa n) = .ok n := by
  have hp : parseMag (decDigits n.natAbs) = .ok n.natAbs := by
    obtain ⟨c, r, e, _⟩ := dec_ne n.natAbs
    rw [parseMag, if_neg (by rw [e]; simp), parse_val _ _ (dec_dig _) (by rw [dec_val]; omega), dec_val]
  by_cases h : n < 0
  · have e : itoa n = 45 :: decDigits n.natAbs := if_pos h
    rw [e]
    simp only [atoiAll]
    rw [if_pos (Or.inr (by decide)), hp]
    simp only
    rw [if_neg (by simp), if_neg (by omega)]
    simp only [show (45 : UInt8).toNat = 45 by decide, if_true]
    congr 1
    omega
  · have e : itoa n = decDigits n.natAbs := (if_neg h).trans (by rw [show n.toNat = n.natAbs by omega])
    obtain ⟨c, r, e1, hc⟩ := dec_ne n.natAbs
    unfold digC at hc
    rw [e, e1]
    rw [e1] at hp
    simp only [atoiAll]
    rw [if_neg (by omega), hp]
    simp only
    rw [if_neg (by omega), if_neg (by omega), if_neg (by omega)]
    congr 1
    omega
theorem numOk_atoi {l : List UInt8} {most : Nat} (hm : most ≤ 18) (h : numOkL l most) : atoiAll l = .ok (numV l) := by
  have hb := numOk_b h
  have : 10 ^ most ≤ 10 ^ 18 := Nat.pow_le_pow_right (by decide) hm
  have e := atoi_itoa (n := numV l) (by omega) (by omega)
  rw [h.1] at e
  exact e
/-- What Atoi, its text and its length come to. -/
theorem atoi_ok {l : List UInt8} {most : Nat} {v : Int} (hm : most ≤ 18) (h : atoiAll l = .ok v) : numOkL l most ↔ itoa v = l ∧ (magL l).length ≤ most := by
  constructor
  · intro hn
    have := (numOk_atoi hm hn).symm.trans h
    simp only [NumEnd.ok.injEq] at this
    rw [← this]; exact hn
  · rintro ⟨h1, h2⟩
    have : numV l = v := by rw [← h1, numV_itoa]
    exact ⟨by rw [this]; exact h1, h2⟩
theorem atoi_no {l : List UInt8} {most : Nat} (hm : most ≤ 18) (h : ∀ v, atoiAll l ≠ .ok v) : ¬ numOkL l most := fun hn => h _ (numOk_atoi hm hn)

end Go.TL
