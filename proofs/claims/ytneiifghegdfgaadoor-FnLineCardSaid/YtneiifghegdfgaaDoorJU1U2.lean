/- Texts joined. No conditions but those that are written. -/
import Derived.Test.YtneiifghegdfgaaDoorF0
import Derived.Test.YtneiifghegdfgaaDoorH1
import Derived.Test.YtneiifghegdfgaaDoorShS
import Derived.Test.YtneiifghegdfgaaDoorNm
import Derived.Test.YtneiifghegdfgaaDoorTLib
import Derived.Test.YtneiifghegdfgaaDoorTSlc
import Derived.Test.YtneiifghegdfgaaDoorTDr3
/- The words of a line, in plain words. No conditions. -/
namespace Go.TL
set_option linter.unusedSimpArgs false
open Go.Proofs Go.RowKit
attribute [local irreducible] wpOpsT wpT EndT Ex.seq Ex.block W

theorem strL_cut (s : ByteArray) (a b : Nat) : strL (s.extract a b) = ((strL s).drop a).take (b - a) := by
  unfold strL
  rw [show (s.extract a b).data = s.data.extract a b from ByteArray.data_extract, Array.toList_extract, List.extract_eq_take_drop, List.map_take, List.map_drop]
theorem strL_from (s : ByteArray) (a : Nat) : strL (s.extract a s.size) = (strL s).drop a := by
  rw [strL_cut, List.take_of_length_le (by rw [List.length_drop, strL_length]; exact Nat.le_refl _)]
theorem nth_drop {l : List Int} {a j : Nat} : nth (l.drop a) (j : Nat) = nth l ((a + j : Nat) : Int) := by
  unfold nth
  rw [List.getD_eq_getElem?_getD, List.getD_eq_getElem?_getD, List.getElem?_drop]
  rfl
theorem cut_cut (s : ByteArray) (a i j : Nat) (h : a + j ≤ s.size) : (s.extract a s.size).extract i j = s.extract (a + i) (a + j) := by
  apply ByteArray.ext
  rw [ByteArray.data_extract, ByteArray.data_extract, ByteArray.data_extract, Array.extract_extract]
  congr 1
  have : s.data.size = s.size := rfl
  omega
theorem cut_size {s : ByteArray} {a : Nat} (h : a ≤ s.size) : (s.extract a s.size).size = s.size - a := by
  rw [ByteArray.size_extract]; omega
theorem cut_all (s : ByteArray) : s.extract 0 s.size = s := by
  apply ByteArray.ext
  rw [ByteArray.data_extract]
  exact Array.extract_size

/-- What is read of a line's words ahead of a place: the words that are whole, where the next one begins. -/
def wordSt (s : ByteArray) : Nat → List ByteArray × Nat
  | 0 => ([], 0)
  | i + 1 => if nth (strL s) (i : Nat) = 32 then ((wordSt s i).1 ++ [s.extract (wordSt s i).2 i], i + 1) else wordSt s i
def wordsOf (s : ByteArray) : List ByteArray := (wordSt s s.size).1 ++ [s.extract (wordSt s s.size).2 s.size]
theorem wordSt_le (s : ByteArray) : ∀ i, (wordSt s i).2 ≤ i
  | 0 => Nat.le_refl _
  | i + 1 => by
    rw [wordSt]
    split
    · exact Nat.le_refl _
    · exact Nat.le_succ_of_le (wordSt_le s i)
theorem wordSt_len (s : ByteArray) : ∀ i, (wordSt s i).1.length ≤ i
  | 0 => Nat.le_refl _
  | i + 1 => by
    have := wordSt_len s i
    rw [wordSt]
    split
    · rw [List.length_append, List.length_singleton]; omega
    · omega
theorem wordSt_gap {s : ByteArray} {a : Nat} : ∀ d, (∀ j, j < d → ¬ nth (strL s) ((a + j : Nat) : Int) = 32) → wordSt s (a + d) = wordSt s a
  | 0, _ => rfl
  | d + 1, h => by
    rw [← Nat.add_assoc, wordSt, if_neg (h d (Nat.lt_succ_self _))]
    exact wordSt_gap d fun j hj => h j (Nat.lt_succ_of_lt hj)
theorem wordSt_hit {s : ByteArray} {a : Nat} {m : Nat} (h2 : (wordSt s a).2 = a) (hm : nth (strL s) ((a + m : Nat) : Int) = 32) (h : ∀ j, j < m → ¬ nth (strL s) ((a + j : Nat) : Int) = 32) : wordSt s (a + m + 1) = ((wordSt s a).1 ++ [s.extract a (a + m)], a + m + 1) := by
  rw [wordSt, if_pos hm, wordSt_gap m h, h2]
/-- How many of a row's things are a thing, up to a place. -/
def cntF (l : List Int) (v : Int) : Nat → Nat
  | 0 => 0
  | i + 1 => if nth l (i : Nat) = v then cntF l v i + 1 else cntF l v i
theorem wordSt_cnt (s : ByteArray) : ∀ i, (wordSt s i).1.length = cntF (strL s) 32 i
  | 0 => rfl
  | i + 1 => by
    rw [wordSt, cntF]
    split
    · rw [List.length_append, List.length_singleton, wordSt_cnt s i]
    · exact wordSt_cnt s i
theorem cntF_le (l : List Int) (v : Int) : ∀ i, cntF l v i ≤ i
  | 0 => Nat.le_refl _
  | i + 1 => by
    have := cntF_le l v i
    rw [cntF]
    split <;> omega
theorem wordsOf_len (s : ByteArray) : (wordsOf s).length = cntF (strL s) 32 s.size + 1 := by
  unfold wordsOf
  rw [List.length_append, List.length_singleton, wordSt_cnt]
theorem wordsOf_ne (s : ByteArray) : 0 < (wordsOf s).length := by rw [wordsOf_len]; omega
/-- A word is not longer than its line. -/
theorem wordSt_size (s : ByteArray) : ∀ i, ∀ w ∈ (wordSt s i).1, w.size ≤ s.size
  | 0, w, h => by cases h
  | i + 1, w, h => by
    rw [wordSt] at h
    split at h
    · rcases List.mem_append.1 h with h | h
      · exact wordSt_size s i w h
      · rw [List.mem_singleton.1 h, ByteArray.size_extract]; omega
    · exact wordSt_size s i w h
theorem wordsOf_size (s : ByteArray) : ∀ w ∈ wordsOf s, w.size ≤ s.size := fun w h => by
  rcases List.mem_append.1 h with h | h
  · exact wordSt_size s _ w h
  · rw [List.mem_singleton.1 h, ByteArray.size_extract]; omega

end Go.TL

/- Lines are cut into words, both sides. No conditions but those that are written. -/
namespace Go.TL
set_option linter.unusedSimpArgs false
open Go.Proofs Go.RowKit
attribute [local irreducible] wpOpsT wpT EndT Ex.seq Ex.block W

theorem cnt_byte (s : ByteArray) : (Lib.countByte s.data.toList 32 : Nat) = cntF (strL s) 32 s.size := by
  have key : ∀ (l : List UInt8) (i : Nat), i ≤ l.length → (l.take i).count 32 = cntF (l.map fun b => (b.toNat : Int)) 32 i := by
    intro l i
    induction i with
    | zero => intro _; rfl
    | succ i ih =>
      intro hi
      rw [cntF, ← ih (by omega), List.take_succ_eq_append_getElem (by omega), List.count_append]
      have e : nth (l.map fun b => (b.toNat : Int)) (i : Nat) = ((l[i]'(by omega)).toNat : Int) := by
        rw [nth_nat (by rw [List.length_map]; omega), List.getElem_map]
      rw [e]
      by_cases h : l[i]'(by omega) = 32
      · rw [h]; rfl
      · rw [if_neg fun hh => h (UInt8.toNat_inj.1 (by show _ = 32; omega)), show [l[i]'(by omega)].count 32 = 0 by simp [h]]
        rfl
  have := key s.data.toList s.size (by rw [Array.length_toList]; exact Nat.le_refl _)
  rw [List.take_of_length_le (by rw [Array.length_toList]; exact Nat.le_refl _)] at this
  exact this
/-- The first space. -/
def idxS (s : ByteArray) : Int := findBy (fun x => decide (x = 32)) (strL s)
theorem idx_byte (s : ByteArray) : Lib.indexByte s.data.toList 32 = idxS s := by
  unfold idxS strL
  induction s.data.toList with
  | nil => rfl
  | cons b l ih =>
    rw [Lib.indexByte, ih, List.map_cons]
    by_cases h : b = 32
    · subst h
      rw [if_pos (by decide)]
      rfl
    · have hb : ¬ ((b.toNat : Int) = 32) := fun hh => h (UInt8.toNat_inj.1 (by show _ = 32; omega))
      rw [if_neg (by simpa using h)]
      unfold findBy
      rw [List.findIdx_cons, decide_eq_false hb]
      simp only [cond_false, List.length_cons, beq_iff_eq]
      split <;> split <;> split at * <;> omega
theorem strings_Count (s : ByteArray) : CallsT Tryd.prog [] F.strings_Count [.v (.string s), .v (.string ⟨#[32]⟩)] (.v (.int .i64 (cntF (strL s) 32 s.size : Nat))) [] := by
  refine CallsT.lib C.strings_Count (by kernel_rfl) (by decide +kernel) fun E w0 vals hI hsz ht => ?_
  have h0 := ht 0 _ rfl
  have h1 := ht 1 _ rfl
  match vals, hsz with
  | ⟨[v0, v1]⟩, _ =>
    have h0 : TR E (.v (.string s)) v0 := h0
    have h1 : TR E (.v (.string ⟨#[32]⟩)) v1 := h1
    cases h0
    cases h1
    refine (Tryd.strings_Count_one s 32 E.w).mono fun e w' h => ?_
    rw [cnt_byte] at h
    exact ⟨h.1, by rw [h.2]; exact Below.refl _ _⟩
theorem strings_Index (s : ByteArray) : CallsT Tryd.prog [] F.strings_Index [.v (.string s), .v (.string ⟨#[32]⟩)] (.v (.int .i64 (idxS s))) [] := by
  refine CallsT.lib C.strings_Index (by kernel_rfl) (by decide +kernel) fun E w0 vals hI hsz ht => ?_
  have h0 := ht 0 _ rfl
  have h1 := ht 1 _ rfl
  match vals, hsz with
  | ⟨[v0, v1]⟩, _ =>
    have h0 : TR E (.v (.string s)) v0 := h0
    have h1 : TR E (.v (.string ⟨#[32]⟩)) v1 := h1
    cases h0
    cases h1
    refine (Tryd.strings_Index_one s 32 E.w).mono fun e w' h => ?_
    rw [idx_byte] at h
    exact ⟨h.1, by rw [h.2]; exact Below.refl _ _⟩

/-- What the loop over a line's places holds; behind the last one all words. -/
def wordTo (s : ByteArray) (i : Nat) : List ByteArray × Nat := if i ≤ s.size then wordSt s i else (wordsOf s, s.size + 1)
set_option maxHeartbeats 4000000 in
theorem spec_l12Words (s : ByteArray) (hpre : s.size ≤ 10000000) : CallsT Tryd.prog [] F.spec_l12Words [.v (.string s)] (.sl false 0 (wordsOf s).length 1 (rowT strC (wordsOf s))) [] := by
  refine fnT C.spec_l12Words ?_
  have hwl := wordsOf_len s
  have hcl := cntF_le (strL s) 32 s.size
  refine run ?_
  refine r_for (s.size + 1) (fun i => [(0, .v (.string s)), (3, .ref 0 [] 0 (wordTo s i).1.length), (4, .v (.int .i64 ((wordTo s i).2))), (5, .v (.int .i64 i))]) (fun i => [⟨1, true, rowT strC (wordTo s i).1⟩]) (fun _ => True) [0] [] trivial (Gc.of (hf := by simp only [wordTo, if_pos (Nat.zero_le _), wordSt]; (simp only [go_sem, ↓reduceIte, Nat.reduceEqDiff, Nat.reduceMul, Nat.reduceAdd, Nat.reduceSub, Nat.reduceLT, Nat.reduceGT, Nat.reduceLeDiff, Nat.reduceBEq, Int.reduceLT, Int.reduceLE, Int.reduceNe, Int.reduceEq, Int.reduceToNat, Int.reduceAdd, Int.reduceSub, Int.reduceMul, Int.reduceNeg, Nat.reducePow, Int.reducePow, Nat.reduceSubDiff, decide_true, decide_false, reduceCtorEq, or_self, or_false, false_or, or_true, true_or, if_false, gt_iff_lt, ge_iff_le, ne_eq, not_true_eq_false, not_false_eq_true, and_self, beq_self_eq_true, Bool.false_eq_true]; try (repeat (first | exact True.intro | exact Wk.refl _ | exact Wk.nil _ _ | exact Wk.dead _ | exact Wk.bT (by assumption) | exact Wk.bF (by assumption) | exact Wk.eqI (by omega) | exact WkS.refl _ | exact Wks.same _ | exact Wks.nil | exact WkS.nil | refine And.intro ?_ ?_ | refine Wk.aggs ?_ | refine Wk.tups ?_ | refine Wks.cons ?_ ?_ | refine WkS.cons (by first | exact fun _ => rfl | exact fun h => absurd h Bool.false_ne_true) ?_ ?_ ?_ | assumption | exact (fun h => h) | exact (fun h => absurd h Bool.false_ne_true) | intro _)))) (hs := by simp only [wordTo, if_pos (Nat.zero_le _), wordSt]; (simp only [go_sem, ↓reduceIte, Nat.reduceEqDiff, Nat.reduceMul, Nat.reduceAdd, Nat.reduceSub, Nat.reduceLT, Nat.reduceGT, Nat.reduceLeDiff, Nat.reduceBEq, Int.reduceLT, Int.reduceLE, Int.reduceNe, Int.reduceEq, Int.reduceToNat, Int.reduceAdd, Int.reduceSub, Int.reduceMul, Int.reduceNeg, Nat.reducePow, Int.reducePow, Nat.reduceSubDiff, decide_true, decide_false, reduceCtorEq, or_self, or_false, false_or, or_true, true_or, if_false, gt_iff_lt, ge_iff_le, ne_eq, not_true_eq_false, not_false_eq_true, and_self, beq_self_eq_true, Bool.false_eq_true]; try (repeat (first | exact True.intro | exact Wk.refl _ | exact Wk.nil _ _ | exact Wk.dead _ | exact Wk.bT (by assumption) | exact Wk.bF (by assumption) | exact Wk.eqI (by omega) | exact WkS.refl _ | exact Wks.same _ | exact Wks.nil | exact WkS.nil | refine And.intro ?_ ?_ | refine Wk.aggs ?_ | refine Wk.tups ?_ | refine Wks.cons ?_ ?_ | refine WkS.cons (by first | exact fun _ => rfl | exact fun h => absurd h Bool.false_ne_true) ?_ ?_ ?_ | assumption | exact (fun h => h) | exact (fun h => absurd h Bool.false_ne_true) | intro _))))) (fun i hi _ => ?_) (fun _ => ?_)
  · have hle := wordSt_le s i
    have hln := wordSt_len s i
    rw [show wordTo s i = wordSt s i from if_pos (by omega)]
    by_cases hlt : i < s.size
    · rw [show wordTo s (i + 1) = wordSt s (i + 1) from if_pos (by omega)]
      refine run ?_
      refine r_ifd (fun h => ?_) (fun h => ?_)
      · have h32 : nth (strL s) (i : Nat) = 32 := by omega
        rw [wordSt, if_pos h32]
        refine run ?_
        exact ⟨[2], [], Gc.of, trivial⟩
      · have h32 : ¬ nth (strL s) (i : Nat) = 32 := by omega
        rw [wordSt, if_neg h32]
        refine run ?_
        exact ⟨[0], [], Gc.of, trivial⟩
    · obtain rfl : i = s.size := by omega
      rw [show wordTo s (s.size + 1) = (wordsOf s, s.size + 1) from if_neg (by omega)]
      unfold wordsOf
      refine run ?_
      dsimp only
      exact ⟨[2], [], Gc.of, trivial⟩
  · rw [show wordTo s (s.size + 1) = (wordsOf s, s.size + 1) from if_neg (by omega)]
    refine run ?_
    exact r_end [] [0]
instance (s : ByteArray) : Con Tryd.prog F.spec_l12Words [.v (.string s)] (s.size ≤ 10000000) (.sl false 0 (wordsOf s).length 1 (rowT strC (wordsOf s))) [] := ⟨fun h => spec_l12Words s h⟩

theorem mixS {out : List ByteArray} {n : Nat} (w : ByteArray) (h : out.length < n) : (out ++ List.replicate (n - out.length) (⟨#[]⟩ : ByteArray)).set out.length w = (out ++ [w]) ++ List.replicate (n - (out ++ [w]).length) (⟨#[]⟩ : ByteArray) := by
  rw [List.set_append_right _ _ (Nat.le_refl _), Nat.sub_self, List.append_assoc, List.length_append, List.length_singleton]
  congr 1
  rw [show n - out.length = (n - (out.length + 1)) + 1 by omega, List.replicate_succ]
  rfl

theorem wordSt_mono (s : ByteArray) (a : Nat) : ∀ d, (wordSt s a).1.length ≤ (wordSt s (a + d)).1.length
  | 0 => Nat.le_refl _
  | d + 1 => by
    have := wordSt_mono s a d
    rw [← Nat.add_assoc, wordSt]
    split
    · rw [List.length_append]; omega
    · exact this
theorem wordSt_same {s : ByteArray} {a : Nat} : ∀ d, (wordSt s (a + d)).1.length = (wordSt s a).1.length → wordSt s (a + d) = wordSt s a
  | 0, _ => rfl
  | d + 1, h => by
    have h1 := wordSt_mono s a d
    rw [← Nat.add_assoc, wordSt] at h ⊢
    split at h
    · rw [List.length_append, List.length_singleton] at h; omega
    · rename_i h2
      rw [if_neg h2]
      exact wordSt_same d h
/-- The first space behind a place. -/
theorem idx_from {s : ByteArray} {a : Nat} (ha : a ≤ s.size) (h : (wordSt s a).1.length < (wordSt s s.size).1.length) : ∃ m : Nat, idxS (s.extract a s.size) = m ∧ a + m < s.size ∧ nth (strL s) ((a + m : Nat) : Int) = 32 ∧ ∀ j, j < m → ¬ nth (strL s) ((a + j : Nat) : Int) = 32 := by
  have hl : (strL (s.extract a s.size)) = (strL s).drop a := strL_from s a
  have hz : ((strL s).drop a).length = s.size - a := by rw [List.length_drop, strL_length]
  unfold idxS
  rw [hl]
  by_cases hx : ∃ m : Nat, m < s.size - a ∧ nth (strL s) ((a + m : Nat) : Int) = 32
  · obtain ⟨m0, hm0⟩ := hx
    have hb : 0 ≤ findBy (fun x => decide (x = 32)) ((strL s).drop a) := by
      by_cases hn : findBy (fun x => decide (x = 32)) ((strL s).drop a) < 0
      · exfalso
        unfold findBy at hn
        split at hn
        · omega
        · rename_i h2
          refine h2 (List.findIdx_lt_length_of_exists ⟨((strL s).drop a)[m0]'(by omega), List.getElem_mem _, decide_eq_true ?_⟩)
          rw [← nth_nat (by omega), nth_drop]
          exact hm0.2
      · omega
    have hhit := findBy_hit (p := fun x : Int => decide (x = 32)) hb
    simp only [decide_eq_true_eq] at hhit
    have hbb := findBy_b (fun x => decide (x = 32)) ((strL s).drop a)
    obtain ⟨m, hm⟩ := Int.eq_ofNat_of_zero_le hb
    rw [hm] at hhit hbb ⊢
    rw [nth_drop] at hhit
    refine ⟨m, rfl, by omega, hhit, fun j hj e => ?_⟩
    have h3 : ((strL s).drop a).findIdx (fun x => decide (x = 32)) = m := by
      unfold findBy at hm
      split at hm <;> omega
    have h4 := List.not_of_lt_findIdx (xs := (strL s).drop a) (p := fun x => decide (x = 32)) (i := j) (by omega)
    rw [← nth_nat (by omega), nth_drop] at h4
    exact absurd e (by simpa using h4)
  · exfalso
    have h5 := wordSt_gap (s := s) (a := a) (s.size - a) fun j hj e => hx ⟨j, hj, e⟩
    rw [show a + (s.size - a) = s.size by omega] at h5
    rw [h5] at h
    omega

set_option maxHeartbeats 4000000 in
theorem strings_genSplit (s : ByteArray) (hs : s.size ≤ 1000000) : CallsT Tryd.prog [] F.strings_genSplit [.v (.string s), .v (.string ⟨#[32]⟩), .v (.int .i64 0), .v (.int .i64 (-1))] (.sl false 0 (wordsOf s).length 1 (rowT strC (wordsOf s))) [] := by
  have hcl := cntF_le (strL s) 32 s.size
  have hcw := wordSt_cnt s s.size
  have hcount := strings_Count s
  have hwl := wordsOf_len s
  generalize hcnt : cntF (strL s) 32 s.size = cnt at *
  refine fnT C.strings_genSplit ?_
  refine runC ?_
  refine r_ifd (p := (⟨#[32]⟩ : ByteArray) = ⟨#[]⟩) (fun h => absurd h (by decide)) (fun _ => ?_)
  refine runC ?_
  refine r_callp true hcount ?_
  refine runC ?_
  rw [show min ((cnt : Int) + 1) ((s.size : Int) + 1) = (cnt : Int) + 1 by omega, show ((cnt : Int) + 1).toNat = cnt + 1 by omega, List.length_replicate, show (cnt : Int) + 1 - 1 = cnt by omega]
  refine r_loop_of (σ := Nat) (fun a => [(0, .v (.string (s.extract a s.size))), (1, .v (.string ⟨#[32]⟩)), (2, .v (.int .i64 0)), (3, .v (.int .i64 cnt)), (9, .ref 0 [] 0 (cnt + 1)), (10, .v (.int .i64 ((wordSt s a).1.length)))]) (fun a => [⟨1, true, rowT strC ((wordSt s a).1 ++ List.replicate (cnt + 1 - (wordSt s a).1.length) (⟨#[]⟩ : ByteArray))⟩]) (fun a => a ≤ s.size ∧ (wordSt s a).2 = a ∧ (wordSt s a).1.length ≤ cnt) (fun a => s.size - a) 0 [0] [] ⟨Nat.zero_le _, rfl, Nat.zero_le _⟩ (Gc.of (hf := ?_) (hs := ?_)) (fun a ha => ?_)
  · rw [cut_all]
    simp only [wordSt]
    (simp only [go_sem, ↓reduceIte, Nat.reduceEqDiff, Nat.reduceMul, Nat.reduceAdd, Nat.reduceSub, Nat.reduceLT, Nat.reduceGT, Nat.reduceLeDiff, Nat.reduceBEq, Int.reduceLT, Int.reduceLE, Int.reduceNe, Int.reduceEq, Int.reduceToNat, Int.reduceAdd, Int.reduceSub, Int.reduceMul, Int.reduceNeg, Nat.reducePow, Int.reducePow, Nat.reduceSubDiff, decide_true, decide_false, reduceCtorEq, or_self, or_false, false_or, or_true, true_or, if_false, gt_iff_lt, ge_iff_le, ne_eq, not_true_eq_false, not_false_eq_true, and_self, beq_self_eq_true, Bool.false_eq_true]; try (repeat (first | exact True.intro | exact Wk.refl _ | exact Wk.nil _ _ | exact Wk.dead _ | exact Wk.bT (by assumption) | exact Wk.bF (by assumption) | exact Wk.eqI (by omega) | exact WkS.refl _ | exact Wks.same _ | exact Wks.nil | exact WkS.nil | refine And.intro ?_ ?_ | refine Wk.aggs ?_ | refine Wk.tups ?_ | refine Wks.cons ?_ ?_ | refine WkS.cons (by first | exact fun _ => rfl | exact fun h => absurd h Bool.false_ne_true) ?_ ?_ ?_ | assumption | exact (fun h => h) | exact (fun h => absurd h Bool.false_ne_true) | intro _)))
  · simp only [wordSt, List.nil_append, List.length_nil, Nat.sub_zero]
    (simp only [go_sem, ↓reduceIte, Nat.reduceEqDiff, Nat.reduceMul, Nat.reduceAdd, Nat.reduceSub, Nat.reduceLT, Nat.reduceGT, Nat.reduceLeDiff, Nat.reduceBEq, Int.reduceLT, Int.reduceLE, Int.reduceNe, Int.reduceEq, Int.reduceToNat, Int.reduceAdd, Int.reduceSub, Int.reduceMul, Int.reduceNeg, Nat.reducePow, Int.reducePow, Nat.reduceSubDiff, decide_true, decide_false, reduceCtorEq, or_self, or_false, false_or, or_true, true_or, if_false, gt_iff_lt, ge_iff_le, ne_eq, not_true_eq_false, not_false_eq_true, and_self, beq_self_eq_true, Bool.false_eq_true]; try (repeat (first | exact True.intro | exact Wk.refl _ | exact Wk.nil _ _ | exact Wk.dead _ | exact Wk.bT (by assumption) | exact Wk.bF (by assumption) | exact Wk.eqI (by omega) | exact WkS.refl _ | exact Wks.same _ | exact Wks.nil | exact WkS.nil | refine And.intro ?_ ?_ | refine Wk.aggs ?_ | refine Wk.tups ?_ | refine Wks.cons ?_ ?_ | refine WkS.cons (by first | exact fun _ => rfl | exact fun h => absurd h Bool.false_ne_true) ?_ ?_ ?_ | assumption | exact (fun h => h) | exact (fun h => absurd h Bool.false_ne_true) | intro _)))
  obtain ⟨ha1, ha2, ha3⟩ := ha
  have hsz := cut_size ha1
  have hlen : ((wordSt s a).1 ++ List.replicate (cnt + 1 - (wordSt s a).1.length) (⟨#[]⟩ : ByteArray)).length = cnt + 1 := by rw [List.length_append, List.length_replicate]; omega
  by_cases hlt : (wordSt s a).1.length < cnt
  · obtain ⟨m, hm, hma, hm32, hmn⟩ := idx_from ha1 (by omega)
    have hidx := strings_Index (s.extract a s.size)
    rw [hm] at hidx
    have hhit := wordSt_hit ha2 hm32 hmn
    have e1 : (s.extract a s.size).extract 0 m = s.extract a (a + m) := cut_cut s a 0 m (by omega)
    have e2 : (s.extract a s.size).extract (m + 1) (s.size - a) = s.extract (a + m + 1) s.size := by
      rw [cut_cut s a (m + 1) (s.size - a) (by omega), show a + (s.size - a) = s.size by omega]; rfl
    refine runC ?_
    refine r_callp true hidx ?_
    refine runC ?_
    rw [show ((m : Int) + 0).toNat = m by omega, e1]
    refine r_sto (enc := strC) _ (wordSt s a).1.length (s.extract a (a + m)) ?_
    rw [mixS _ (by omega)]
    refine runC ?_
    rw [show (((#[32] : Array UInt8).size : Nat) : Int) = 1 from rfl, wrap64_in (by omega)]
    refine runC ?_
    rw [show ((m : Int) + 1).toNat = m + 1 by omega, hsz, e2]
    have hl2 : (wordSt s (a + m + 1)).1.length = (wordSt s a).1.length + 1 := by rw [hhit, List.length_append, List.length_singleton]
    refine ⟨a + m + 1, [0], [], Gc.of (hf := ?_) (hs := ?_), by omega, by omega, by rw [hhit], by omega⟩
    · rw [hl2]
      (simp only [go_sem, ↓reduceIte, Nat.reduceEqDiff, Nat.reduceMul, Nat.reduceAdd, Nat.reduceSub, Nat.reduceLT, Nat.reduceGT, Nat.reduceLeDiff, Nat.reduceBEq, Int.reduceLT, Int.reduceLE, Int.reduceNe, Int.reduceEq, Int.reduceToNat, Int.reduceAdd, Int.reduceSub, Int.reduceMul, Int.reduceNeg, Nat.reducePow, Int.reducePow, Nat.reduceSubDiff, decide_true, decide_false, reduceCtorEq, or_self, or_false, false_or, or_true, true_or, if_false, gt_iff_lt, ge_iff_le, ne_eq, not_true_eq_false, not_false_eq_true, and_self, beq_self_eq_true, Bool.false_eq_true]; try (repeat (first | exact True.intro | exact Wk.refl _ | exact Wk.nil _ _ | exact Wk.dead _ | exact Wk.bT (by assumption) | exact Wk.bF (by assumption) | exact Wk.eqI (by omega) | exact WkS.refl _ | exact Wks.same _ | exact Wks.nil | exact WkS.nil | refine And.intro ?_ ?_ | refine Wk.aggs ?_ | refine Wk.tups ?_ | refine Wks.cons ?_ ?_ | refine WkS.cons (by first | exact fun _ => rfl | exact fun h => absurd h Bool.false_ne_true) ?_ ?_ ?_ | assumption | exact (fun h => h) | exact (fun h => absurd h Bool.false_ne_true) | intro _)))
    · rw [hhit]
      (simp only [go_sem, ↓reduceIte, Nat.reduceEqDiff, Nat.reduceMul, Nat.reduceAdd, Nat.reduceSub, Nat.reduceLT, Nat.reduceGT, Nat.reduceLeDiff, Nat.reduceBEq, Int.reduceLT, Int.reduceLE, Int.reduceNe, Int.reduceEq, Int.reduceToNat, Int.reduceAdd, Int.reduceSub, Int.reduceMul, Int.reduceNeg, Nat.reducePow, Int.reducePow, Nat.reduceSubDiff, decide_true, decide_false, reduceCtorEq, or_self, or_false, false_or, or_true, true_or, if_false, gt_iff_lt, ge_iff_le, ne_eq, not_true_eq_false, not_false_eq_true, and_self, beq_self_eq_true, Bool.false_eq_true]; try (repeat (first | exact True.intro | exact Wk.refl _ | exact Wk.nil _ _ | exact Wk.dead _ | exact Wk.bT (by assumption) | exact Wk.bF (by assumption) | exact Wk.eqI (by omega) | exact WkS.refl _ | exact Wks.same _ | exact Wks.nil | exact WkS.nil | refine And.intro ?_ ?_ | refine Wk.aggs ?_ | refine Wk.tups ?_ | refine Wks.cons ?_ ?_ | refine WkS.cons (by first | exact fun _ => rfl | exact fun h => absurd h Bool.false_ne_true) ?_ ?_ ?_ | assumption | exact (fun h => h) | exact (fun h => absurd h Bool.false_ne_true) | intro _)))
  · have hc : (wordSt s a).1.length = cnt := by omega
    have hw : wordSt s s.size = wordSt s a := by
      have := wordSt_same (s := s) (a := a) (s.size - a) (by rw [show a + (s.size - a) = s.size by omega]; omega)
      rwa [show a + (s.size - a) = s.size by omega] at this
    have hwo : wordsOf s = (wordSt s a).1 ++ [s.extract a s.size] := by rw [wordsOf, hw, ha2]
    refine runC ?_
    refine r_sto (enc := strC) _ (wordSt s a).1.length (s.extract a s.size) ?_
    rw [mixS _ (by omega), show cnt + 1 - ((wordSt s a).1 ++ [s.extract a s.size]).length = 0 by rw [List.length_append, List.length_singleton]; omega, List.replicate_zero, List.append_nil, ← hwo]
    refine r_ops ?_
    refine x_seq_n ?_
    rw [← hwl]
    refine r_gc [(9, .sl false 0 (wordsOf s).length 1 (rowT strC (wordsOf s))), (10, .v (.int .i64 ((wordSt s a).1.length)))] [] [] [0] Gc.of ?_
    rw [hc]
    have e5 : (wordsOf s).take ((cnt : Int) + 1).toNat = wordsOf s := List.take_of_length_le (by omega)
    refine runC ?_
    rw [e5]
    refine runC ?_
    exact r_end [] []

theorem strings_Split (s : ByteArray) (hs : s.size ≤ 1000000) : CallsT Tryd.prog [] F.strings_Split [.v (.string s), .v (.string ⟨#[32]⟩)] (.sl false 0 (wordsOf s).length 1 (rowT strC (wordsOf s))) [] := by
  refine fnT C.strings_Split ?_
  refine runC ?_
  refine r_callp false (strings_genSplit s hs) ?_
  refine run ?_
  exact r_end [] []

end Go.TL
