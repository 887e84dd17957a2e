/- The words of a line, in plain words. No conditions. -/
import Derived.Test.YtneiifghegdfgaaDoorF0
import Derived.Test.YtneiifghegdfgaaDoorH1
namespace Go.TL
set_option linter.unusedSimpArgs false
open Go.Proofs Go.RowKit
attribute [local irreducible] wpOpsT wpT EndT Ex.seq Ex.block W

theorem strL_cut (s : ByteArray) (a b : Nat) : strL (s.extract a b) = ((strL s).drop a).take (b - a) := by
  unfold strL
  rw [show (s.extract a b).data = s.data.extract a b from ByteArray.data_extract, Array.toList_extract, List.extract_eq_take_drop, List.map_take, List.map_drop]
theorem strL_from (s : ByteArray) (a : Nat) : strL (s.extract a s.size) = (strL s).drop a := by
  rw [strL_cut, List.take_of_length_le (by rw [List.length_drop, strL_length]; exact Nat.le_refl _)]
theorem nth_drop {l : List Int} {a j : Nat} : nth (l.drop a) (j : Nat) = nth l ((a + j : Nat) : Int) := by
  unfold nth
  rw [List.getD_eq_getElem?_getD, List.getD_eq_getElem?_getD, List.getElem?_drop]
  rfl
theorem cut_cut (s : ByteArray) (a i j : Nat) (h : a + j ≤ s.size) : (s.extract a s.size).extract i j = s.extract (a + i) (a + j) := by
  apply ByteArray.ext
  rw [ByteArray.data_extract, ByteArray.data_extract, ByteArray.data_extract, Array.extract_extract]
  congr 1
  have : s.data.size = s.size := rfl
  omega
theorem cut_size {s : ByteArray} {a : Nat} (h : a ≤ s.size) : (s.extract a s.size).size = s.size - a := by
  rw [ByteArray.size_extract]; omega
theorem cut_all (s : ByteArray) : s.extract 0 s.size = s := by
  apply ByteArray.ext
  rw [ByteArray.data_extract]
  exact Array.extract_size

/-- What is read of a line's words ahead of a place: the words that are whole, where the next one begins. -/
def wordSt (s : ByteArray) : Nat → List ByteArray × Nat
  | 0 => ([], 0)
  | i + 1 => if nth (strL s) (i : Nat) = 32 then ((wordSt s i).1 ++ [s.extract (wordSt s i).2 i], i + 1) else wordSt s i
def wordsOf (s : ByteArray) : List ByteArray := (wordSt s s.size).1 ++ [s.extract (wordSt s s.size).2 s.size]
theorem wordSt_le (s : ByteArray) : ∀ i, (wordSt s i).2 ≤ i
  | 0 => Nat.le_refl _
  | i + 1 => by
    rw [wordSt]
    split
    · exact Nat.le_refl _
    · exact Nat.le_succ_of_le (wordSt_le s i)
theorem wordSt_len (s : ByteArray) : ∀ i, (wordSt s i).1.length ≤ i
  | 0 => Nat.le_refl _
  | i + 1 => by
    have := wordSt_len s i
    rw [wordSt]
    split
    · rw [List.length_append, List.length_singleton]; omega
    · omega
theorem wordSt_gap {s : ByteArray} {a : Nat} : ∀ d, (∀ j, j < d → ¬ nth (strL s) ((a + j : Nat) : Int) = 32) → wordSt s (a + d) = wordSt s a
  | 0, _ => rfl
  | d + 1, h => by
    rw [← Nat.add_assoc, wordSt, if_neg (h d (Nat.lt_succ_self _))]
    exact wordSt_gap d fun j hj => h j (Nat.lt_succ_of_lt hj)
theorem wordSt_hit {s : ByteArray} {a : Nat} {m : Nat} (h2 : (wordSt s a).2 = a) (hm : nth (strL s) ((a + m : Nat) : Int) = 32) (h : ∀ j, j < m → ¬ nth (strL s) ((a + j : Nat) : Int) = 32) : wordSt s (a + m + 1) = ((wordSt s a).1 ++ [s.extract a (a + m)], a + m + 1) := by
  rw [wordSt, if_pos hm, wordSt_gap m h, h2]
/-- How many of a row's things are a thing, up to a place. -/
def cntF (l : List Int) (v : Int) : Nat → Nat
  | 0 => 0
  | i + 1 => if nth l (i : Nat) = v then cntF l v i + 1 else cntF l v i
theorem wordSt_cnt (s : ByteArray) : ∀ i, (wordSt s i).1.length = cntF (strL s) 32 i
  | 0 => rfl
  | i + 1 => by
    rw [wordSt, cntF]
    split
    · rw [List.length_append, List.length_singleton, wordSt_cnt s i]
    · exact wordSt_cnt s i
theorem cntF_le (l : List Int) (v : Int) : ∀ i, cntF l v i ≤ i
  | 0 => Nat.le_refl _
  | i + 1 => by
    have := cntF_le l v i
    rw [cntF]
    split <;> omega
theorem wordsOf_len (s : ByteArray) : (wordsOf s).length = cntF (strL s) 32 s.size + 1 := by
  unfold wordsOf
  rw [List.length_append, List.length_singleton, wordSt_cnt]
theorem wordsOf_ne (s : ByteArray) : 0 < (wordsOf s).length := by rw [wordsOf_len]; omega
/-- A word is not longer than its line. -/
theorem wordSt_size (s : ByteArray) : ∀ i, ∀ w ∈ (wordSt s i).1, w.size ≤ s.size
  | 0, w, h => by cases h
  | i + 1, w, h => by
    rw [wordSt] at h
    split at h
    · rcases List.mem_append.1 h with h | h
      · exact wordSt_size s i w h
      · rw [List.mem_singleton.1 h, ByteArray.size_extract]; omega
    · exact wordSt_size s i w h
theorem wordsOf_size (s : ByteArray) : ∀ w ∈ wordsOf s, w.size ≤ s.size := fun w h => by
  rcases List.mem_append.1 h with h | h
  · exact wordSt_size s _ w h
  · rw [List.mem_singleton.1 h, ByteArray.size_extract]; omega

end Go.TL
