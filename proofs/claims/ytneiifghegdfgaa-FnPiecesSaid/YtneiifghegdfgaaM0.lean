/- Ints and texts that a law marks; rows of ints of one's own. No conditions but those that are written. -/
import Derived.Test.YtneiifghegdfgaaE1
import Derived.Test.YtneiifghegdfgaaTNst
namespace Go.TL
set_option linter.unusedSimpArgs false
open Go.Proofs Go.RowKit
attribute [local irreducible] wpOpsT wpT EndT Ex.seq Ex.block W

/-- The numbers that are written, from k on. -/
def marksI (k : Int) (n : Nat) : List Int := (List.range n).map fun (i : Nat) => k + (i : Int)
theorem marksI_len (k : Int) (n : Nat) : (marksI k n).length = n := by simp [marksI]
theorem marksI_s (k : Int) (n : Nat) : marksI k (n + 1) = marksI k n ++ [k + n] := by simp [marksI, List.range_succ]
theorem marksI_nth (k : Int) {n i : Nat} (h : i < n) : nth (marksI k n) (i : Nat) = k + i := by
  rw [nth_nat (by rw [marksI_len]; exact h)]; simp [marksI]

theorem set_mix0 {l : List Int} (k : Int) {i : Nat} (h : i < l.length) : (marksI k i ++ l.drop i).set i (k + i) = marksI k (i + 1) ++ l.drop (i + 1) := by
  rw [List.set_append_right _ _ (by rw [marksI_len]; exact Nat.le_refl _), marksI_len, Nat.sub_self, List.drop_eq_getElem_cons h, List.set_cons_zero, marksI_s, List.append_assoc]; rfl

/-- A number's digits. -/
def digT (k : Nat) : ByteArray := if _h : k = 0 then ⟨#[]⟩ else digT (k / 10) ++ strOfT [48 + ((k % 10 : Nat) : Int)]
theorem digT_pos {k : Nat} (h : k ≠ 0) : digT k = digT (k / 10) ++ strOfT [48 + ((k % 10 : Nat) : Int)] := by rw [digT, dif_neg h]
theorem digT_size (k : Nat) : (digT k).size ≤ k := by
  induction k using Nat.strongRecOn with
  | _ k ih =>
    by_cases h : k = 0
    · subst h; rw [digT, dif_pos rfl]; exact Nat.le_refl _
    · rw [digT_pos h, ByteArray.size_append]
      have := ih (k / 10) (by omega)
      have h1 : (strOfT [48 + ((k % 10 : Nat) : Int)]).size = 1 := rfl
      rw [h1]
      omega
def mT (k : Int) : ByteArray := ⟨#[109]⟩ ++ digT k.toNat

set_option maxHeartbeats 4000000 in
theorem laws_markText (k : Int) (hpre : 0 < k ∧ k ≤ 1000000000) : CallsT Try.prog [] F.laws_markText [.v (.int .i64 k)] (.v (.string (mT k))) [] := by
  refine fnT C.laws_markText ?_
  obtain ⟨h0, h1⟩ := hpre
  refine run ?_
  obtain ⟨n, rfl⟩ := Int.eq_ofNat_of_zero_le (show 0 ≤ k by omega)
  have hsz := digT_size n
  refine r_loop_of (fun (x : Nat × ByteArray) => [(0, .v (.int .i64 x.1)), (3, .v (.string x.2))]) (fun _ => []) (fun x => digT x.1 ++ x.2 = digT n ∧ x.1 ≤ n) (fun x => x.1) (n, ⟨#[]⟩) [] [] ⟨ByteArray.append_empty, Nat.le_refl _⟩ Gc.of (fun x hx => ?_)
  obtain ⟨hx1, hx2⟩ := hx
  obtain ⟨m, out⟩ := x
  dsimp only at hx1 hx2
  have hos : out.size ≤ 1000000000 := by
    have := congrArg ByteArray.size hx1
    rw [ByteArray.size_append] at this
    omega
  dsimp only
  refine run ?_
  refine r_ifd (fun h => ?_) (fun h => ?_)
  · have hm : m ≠ 0 := by omega
    have e1 : ((m : Int) % 10) = ((m % 10 : Nat) : Int) := by omega
    have e2 : ((m : Int) / 10) = ((m / 10 : Nat) : Int) := by omega
    have z1 : (strOfT [48 + (m : Int) % 10]).size = 1 := rfl
    refine run ?_
    refine ⟨(m / 10, strOfT [48 + (m : Int) % 10] ++ out), [], [], Gc.of, by dsimp only; omega, ?_, by dsimp only; omega⟩
    dsimp only
    rw [← hx1, digT_pos hm, e1, ByteArray.append_assoc]
  · have hm : m = 0 := by omega
    subst hm
    have z1 : (⟨#[109]⟩ : ByteArray).size = 1 := rfl
    refine run ?_
    refine r_endS ?_
    rw [digT, dif_pos rfl] at hx1
    rw [mT, Int.toNat_natCast, ← hx1]
    rfl
instance (k : Int) : Con Try.prog F.laws_markText [.v (.int .i64 k)] (0 < k ∧ k ≤ 1000000000) (.v (.string (mT k))) [] := ⟨fun h => laws_markText k h⟩

end Go.TL
