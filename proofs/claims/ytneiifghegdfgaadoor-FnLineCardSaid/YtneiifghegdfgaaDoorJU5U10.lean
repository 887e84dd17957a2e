/- Texts joined. No conditions but those that are written. -/
import Derived.Test.YtneiifghegdfgaaDoorU4
import Derived.Test.YtneiifghegdfgaaDoorD4
import Derived.Test.YtneiifghegdfgaaDoorJG3G4
/- The words of a line and the line: each is of the other. No conditions. -/
namespace Go.TL
set_option linter.unusedSimpArgs false
open Go.Proofs Go.RowKit
attribute [local irreducible] wpOpsT wpT EndT Ex.seq Ex.block W

theorem strL_ap (s t : ByteArray) : strL (s ++ t) = strL s ++ strL t := by
  unfold strL
  rw [ByteArray.data_append, Array.toList_append, List.map_append]
theorem app_cut {s t : ByteArray} {a b : Nat} (hb : b ≤ s.size) : (s ++ t).extract a b = s.extract a b := by
  apply ByteArray.ext
  rw [ByteArray.data_extract, ByteArray.data_extract, ByteArray.data_append, Array.extract_append]
  have : b - s.data.size = 0 := by have : s.data.size = s.size := rfl; omega
  rw [this, Array.extract_zero]
  simp
theorem app_end {s t : ByteArray} {b : Nat} (hb : b = s.size + t.size) : (s ++ t).extract s.size b = t := by
  apply ByteArray.ext
  rw [ByteArray.data_extract, ByteArray.data_append, Array.extract_append]
  have e1 : s.data.size = s.size := rfl
  have e2 : t.data.size = t.size := rfl
  rw [e1, Nat.sub_self, show b - s.size = t.data.size by omega, Array.extract_size]
  simp
  exact Nat.min_le_right _ _
theorem nth_apl {a b : List Int} {i : Nat} (h : i < a.length) : nth (a ++ b) (i : Nat) = nth a (i : Nat) := by
  rw [nth_nat (by rw [List.length_append]; omega), nth_nat h, List.getElem_append_left h]
theorem nth_apr {a b : List Int} {i : Nat} (h : i < b.length) : nth (a ++ b) ((a.length + i : Nat) : Int) = nth b (i : Nat) := by
  rw [nth_nat (by rw [List.length_append]; omega), nth_nat h, List.getElem_append_right (by omega)]
  simp
theorem wordSt_app (s t : ByteArray) : ∀ i, i ≤ s.size → wordSt (s ++ t) i = wordSt s i
  | 0, _ => rfl
  | i + 1, hi => by
    rw [wordSt, wordSt, wordSt_app s t i (by omega), strL_ap, nth_apl (by rw [strL_length]; omega), app_cut (by omega)]
/-- A word without a space. -/
def wordP (w : ByteArray) : Prop := ∀ j : Nat, j < w.size → ¬ nth (strL w) (j : Nat) = 32
theorem wordsOf_add {s w : ByteArray} (hw : wordP w) : wordsOf (s ++ (spB ++ w)) = wordsOf s ++ [w] := by
  have hsp : spB.size = 1 := rfl
  have hz : (s ++ (spB ++ w)).size = s.size + 1 + w.size := by rw [ByteArray.size_append, ByteArray.size_append, hsp]; omega
  have hl : strL (s ++ (spB ++ w)) = strL s ++ (strL spB ++ strL w) := by rw [strL_ap, strL_ap]
  have hls : (strL s).length = s.size := strL_length s
  have h1 := wordSt_app s (spB ++ w) s.size (Nat.le_refl _)
  have hsp1 : nth (strL (s ++ (spB ++ w))) ((s.size : Nat) : Int) = 32 := by
    rw [hl, show ((s.size : Nat) : Int) = (((strL s).length + 0 : Nat) : Int) by rw [hls]; rfl, nth_apr (by rw [List.length_append]; show 0 < 1 + _; omega)]
    rfl
  have h2 : wordSt (s ++ (spB ++ w)) (s.size + 1) = (wordsOf s, s.size + 1) := by
    rw [wordSt, if_pos hsp1, h1, app_cut (Nat.le_refl _)]
    rfl
  have h3 : wordSt (s ++ (spB ++ w)) (s.size + 1 + w.size) = (wordsOf s, s.size + 1) := by
    rw [wordSt_gap w.size (fun j hj => ?_), h2]
    rw [hl, ← List.append_assoc, show ((s.size + 1 + j : Nat) : Int) = (((strL s ++ strL spB).length + j : Nat) : Int) by rw [List.length_append, hls]; rfl, nth_apr (by rw [strL_length]; exact hj)]
    exact hw j hj
  unfold wordsOf
  rw [hz, h3]
  dsimp only
  congr 2
  rw [← ByteArray.append_assoc, show s.size + 1 = (s ++ spB).size by rw [ByteArray.size_append, hsp]]
  exact app_end rfl
theorem wordsOf_one {w : ByteArray} (hw : wordP w) : wordsOf w = [w] := by
  have h := wordSt_gap (s := w) (a := 0) w.size fun j hj => by rw [Nat.zero_add]; exact hw j hj
  rw [Nat.zero_add] at h
  unfold wordsOf
  rw [h]
  show [] ++ [w.extract 0 w.size] = [w]
  rw [cut_all]; rfl

/-- Words, a space ahead of each but the first. -/
def joinW (ws : List ByteArray) : ByteArray := (ws.drop 1).foldl (fun out w => out ++ (spB ++ w)) (nth ws 0)
theorem joinW_add {ws : List ByteArray} (h : 0 < ws.length) (w : ByteArray) : joinW (ws ++ [w]) = joinW ws ++ (spB ++ w) := by
  cases ws with
  | nil => cases h
  | cons x ws =>
    unfold joinW
    simp only [List.cons_append, List.drop_succ_cons, List.drop_zero, List.foldl_append, List.foldl_cons, List.foldl_nil]
    rfl
theorem joinW_of (s : ByteArray) : ∀ i, i ≤ s.size → joinW ((wordSt s i).1 ++ [s.extract (wordSt s i).2 i]) = s.extract 0 i := by
  intro i
  induction i with
  | zero => intro _; rfl
  | succ i ih =>
    intro hi
    have h := ih (by omega)
    have e1 : ∀ a, a ≤ i → s.extract a (i + 1) = s.extract a i ++ s.extract i (i + 1) := fun a ha => by
      apply ByteArray.ext
      rw [ByteArray.data_append, ByteArray.data_extract, ByteArray.data_extract, ByteArray.data_extract, Array.extract_append_extract]
      congr 1 <;> omega
    rw [wordSt]
    split
    · rename_i h32
      dsimp only
      rw [joinW_add (by rw [List.length_append]; simp), h, e1 0 (by omega)]
      congr 1
      apply ByteArray.ext
      have hb : s.data.toList[i]? = some 32 := by
        have hi2 : i < s.data.toList.length := by rw [Array.length_toList]; exact hi
        rw [List.getElem?_eq_getElem hi2]
        have h3 : nth (strL s) (i : Nat) = ((s.data.toList[i]).toNat : Int) := by
          rw [nth_nat (by rw [strL_length]; exact hi)]
          unfold strL
          rw [List.getElem_map]
        rw [h3] at h32
        congr 1
        exact UInt8.toNat_inj.1 (by show _ = 32; omega)
      apply Array.ext'
      rw [ByteArray.data_append, Array.toList_append, ByteArray.data_extract, ByteArray.data_extract, Array.toList_extract, Array.toList_extract, List.extract_eq_take_drop, List.extract_eq_take_drop]
      have hi2 : i < s.data.toList.length := by rw [Array.length_toList]; exact hi
      rw [Nat.sub_self, List.take_zero, show i + 1 - i = 1 by omega, List.drop_eq_getElem_cons hi2, List.take_succ_cons, List.take_zero]
      rw [List.getElem?_eq_getElem hi2] at hb
      rw [Option.some.inj hb]
      rfl
    · have hle := wordSt_le s i
      rw [e1 _ hle, e1 0 (by omega), ← h]
      generalize (wordSt s i).1 = out
      generalize s.extract (wordSt s i).2 i = w
      generalize s.extract i (i + 1) = b
      cases out with
      | nil => rfl
      | cons x out =>
        rw [joinW_add (by simp), joinW_add (by simp), ByteArray.append_assoc, ByteArray.append_assoc]
theorem joinW_words (s : ByteArray) : joinW (wordsOf s) = s := by
  unfold wordsOf
  rw [joinW_of s s.size (Nat.le_refl _), cut_all]

end Go.TL

/- What is written of a deed is read as it was, and what is read is written as it was, in plain words. No conditions. -/
namespace Go.TL
set_option linter.unusedSimpArgs false
open Go.Proofs Go.RowKit
attribute [local irreducible] wpOpsT wpT EndT Ex.seq Ex.block W
open Go.Lib (itoa decDigits)

/-! ### Bytes and texts -/
theorem strL_of {l : List Int} (h : bytesP l) : strL (strOfT l) = l := by
  unfold strL strOfT
  rw [List.toList_toArray, List.map_map]
  conv => rhs; rw [← List.map_id l]
  refine List.map_congr_left fun x hx => ?_
  have := h x hx
  show ((UInt8.ofNat x.toNat).toNat : Int) = x
  rw [UInt8.toNat_ofNat']
  omega
theorem strOf_L (s : ByteArray) : strOfT (strL s) = s := by
  apply ByteArray.ext
  apply Array.ext'
  unfold strL strOfT
  rw [List.toList_toArray, List.map_map]
  conv => rhs; rw [← List.map_id s.data.toList]
  refine List.map_congr_left fun x _ => ?_
  show UInt8.ofNat ((x.toNat : Int).toNat) = x
  rw [Int.toNat_natCast, UInt8.ofNat_toNat]

/-! ### Hex digits -/
theorem hv_dig : ∀ v : Fin 16, hvI (dig16 (v.val : Int)) = (v.val : Int) ∧ ¬ dig16 (v.val : Int) = 32 := by decide +kernel
theorem hv_dig' {x : Int} (h : 0 ≤ x ∧ x < 16) : hvI (dig16 x) = x ∧ ¬ dig16 x = 32 := by
  have := hv_dig ⟨x.toNat, by omega⟩
  rwa [Int.toNat_of_nonneg h.1] at this
theorem dig_hv {c : Int} (h : 0 ≤ hvI c) : dig16 (hvI c) = c := of_decide_eq_true (findBy_hit (p := fun x => decide (x = c)) (l := strL hexD) h)
theorem hexL_at : ∀ (l : List Int) (j : Nat), j < l.length → nth (hexL l) ((2 * j : Nat) : Int) = dig16 (nth l (j : Nat) / 16) ∧ nth (hexL l) ((2 * j + 1 : Nat) : Int) = dig16 (nth l (j : Nat) % 16)
  | [], j, h => by cases h
  | x :: l, 0, _ => ⟨rfl, rfl⟩
  | x :: l, j + 1, h => by
    have ih := hexL_at l j (by simpa using h)
    have e : hexL (x :: l) = dig16 (x / 16) :: dig16 (x % 16) :: hexL l := rfl
    have s1 : ∀ (a : Int) (m : List Int) (i : Nat), nth (a :: m) ((i + 1 : Nat) : Int) = nth m (i : Nat) := fun a m i => by
      unfold nth; simp
    rw [e, show 2 * (j + 1) + 1 = (2 * j + 1) + 1 + 1 by omega, show 2 * (j + 1) = (2 * j) + 1 + 1 by omega, s1, s1, s1, s1, s1]
    exact ih
theorem hexL_bytes (l : List Int) : bytesP (hexL l) := fun x hx => by
  unfold hexL at hx
  obtain ⟨y, _, hy⟩ := List.mem_flatMap.1 hx
  simp only [List.mem_cons, List.not_mem_nil, or_false] at hy
  rcases hy with rfl | rfl <;> exact dig16_b _
theorem unhex_hex {l : List Int} (h : bytesP l) (hl : l.length ≤ 4000) : unhexOk (strOfT (hexL l)) ∧ unhexV (strOfT (hexL l)) = l := by
  have hz : (strOfT (hexL l)).size = 2 * l.length := by rw [strOf_size, hexL_len]
  have hg : ∀ j, j < l.length → hvI (nth (hexL l) ((2 * j : Nat) : Int)) = nth l (j : Nat) / 16 ∧ hvI (nth (hexL l) ((2 * j + 1 : Nat) : Int)) = nth l (j : Nat) % 16 := fun j hj => by
    have hb := h _ (nth_mem hj)
    obtain ⟨e1, e2⟩ := hexL_at l j hj
    rw [e1, e2]
    exact ⟨(hv_dig' (by omega)).1, (hv_dig' (by omega)).1⟩
  have hok : unhexOk (strOfT (hexL l)) := by
    refine ⟨by omega, by omega, fun j hj => ?_⟩
    have hj : j < l.length := by omega
    have hb := h _ (nth_mem hj)
    rw [hexGood_n]
    rw [strL_of (hexL_bytes l), (hg j hj).1, (hg j hj).2]
    omega
  refine ⟨hok, ?_⟩
  rw [unhexV, if_pos hok, hz, show 2 * l.length / 2 = l.length by omega]
  refine List.ext_getElem (unhexL_len _ _) fun j h1 h2 => ?_
  have hb := h _ (nth_mem h2)
  have e3 : (unhexL (strL (strOfT (hexL l))) l.length)[j]'h1 = hexAt (strL (strOfT (hexL l))) j := by simp only [unhexL, List.getElem_map, List.getElem_range]
  rw [e3, hexAt_n, strL_of (hexL_bytes l), (hg j h2).1, (hg j h2).2]
  rw [nth_nat h2] at hb ⊢
  omega
theorem unhexV_bytes (s : ByteArray) : bytesP (unhexV s) := fun x hx => by
  unfold unhexV at hx
  split at hx
  · rename_i h
    unfold unhexL at hx
    obtain ⟨j, hj, rfl⟩ := List.mem_map.1 hx
    have hj := h.2.2 j (List.mem_range.1 hj)
    have b1 := hvI_b (nth (strL s) ((2 * j : Nat) : Int))
    have b2 := hvI_b (nth (strL s) ((2 * j + 1 : Nat) : Int))
    rw [hexGood_n] at hj
    rw [hexAt_n]
    omega
  · cases hx
theorem hex_unhex {w : ByteArray} (h : unhexOk w) : hexB (strL (strOfT (unhexV w))) = w := by
  have hl := unhexV_len w
  have hz : (unhexV w).length = w.size / 2 := by rw [unhexV, if_pos h, unhexL_len]
  rw [strL_of (unhexV_bytes w), hexB, if_neg (by omega)]
  have e : hexL (unhexV w) = strL w := by
    have hlen : (hexL (unhexV w)).length = (strL w).length := by rw [hexL_len, hz, strL_length]; have := h.1; omega
    refine ext_nth hlen fun i hi => ?_
    rw [hexL_len] at hi
    have hg := h.2.2 (i / 2) (by omega)
    have hv : nth (unhexV w) ((i / 2 : Nat) : Int) = hexAt (strL w) (i / 2) := by
      rw [nth_nat (by omega)]
      simp only [unhexV, if_pos h, unhexL, List.getElem_map, List.getElem_range]
    obtain ⟨e1, e2⟩ := hexL_at (unhexV w) (i / 2) (by omega)
    have b1 := hvI_b (nth (strL w) ((2 * (i / 2) : Nat) : Int))
    have b2 := hvI_b (nth (strL w) ((2 * (i / 2) + 1 : Nat) : Int))
    rw [hexGood_n] at hg
    rw [hv] at e1 e2
    rw [hexAt_n] at e1 e2
    rcases Nat.mod_two_eq_zero_or_one i with hm | hm
    · have hi2 : i = 2 * (i / 2) := by omega
      rw [show nth (hexL (unhexV w)) (i : Nat) = nth (hexL (unhexV w)) ((2 * (i / 2) : Nat) : Int) by rw [← hi2], e1, show nth (strL w) (i : Nat) = nth (strL w) ((2 * (i / 2) : Nat) : Int) by rw [← hi2]]
      rw [show (16 * hvI (nth (strL w) ((2 * (i / 2) : Nat) : Int)) + hvI (nth (strL w) ((2 * (i / 2) + 1 : Nat) : Int))) / 16 = hvI (nth (strL w) ((2 * (i / 2) : Nat) : Int)) by omega]
      exact dig_hv hg.1
    · have hi2 : i = 2 * (i / 2) + 1 := by omega
      rw [show nth (hexL (unhexV w)) (i : Nat) = nth (hexL (unhexV w)) ((2 * (i / 2) + 1 : Nat) : Int) by rw [← hi2], e2, show nth (strL w) (i : Nat) = nth (strL w) ((2 * (i / 2) + 1 : Nat) : Int) by rw [← hi2]]
      rw [show (16 * hvI (nth (strL w) ((2 * (i / 2) : Nat) : Int)) + hvI (nth (strL w) ((2 * (i / 2) + 1 : Nat) : Int))) % 16 = hvI (nth (strL w) ((2 * (i / 2) + 1 : Nat) : Int)) by omega]
      exact dig_hv hg.2
  rw [e, strOf_L]

end Go.TL

/- Deeds and their words, in plain words: each is of the other. No conditions. -/
namespace Go.TL
set_option linter.unusedSimpArgs false
open Go.Proofs Go.RowKit
attribute [local irreducible] wpOpsT wpT EndT Ex.seq Ex.block W
open Go.Lib (itoa decDigits)

def fieldD (d : DeedV) (c : Int) : ByteArray := fieldB d.at_ d.to d.rel d.part d.text c
/-- The words of a deed. -/
def wsOf (d : DeedV) : List ByteArray := nameB d.kind :: (strL (formB d.kind)).map (fieldD d)
theorem wsOf_len (d : DeedV) : (wsOf d).length = (formB d.kind).size + 1 := by
  unfold wsOf
  rw [List.length_cons, List.length_map, strL_length]
theorem wsOf_at (d : DeedV) {i : Nat} (h : i < (formB d.kind).size) : nth (wsOf d) ((i + 1 : Nat) : Int) = fieldD d (nth (strL (formB d.kind)) (i : Nat)) := by
  rw [nth_nat (by rw [wsOf_len]; omega), nth_nat (by rw [strL_length]; exact h)]
  simp only [wsOf, List.getElem_cons_succ, List.getElem_map]
theorem line_words {d : DeedV} (h : deedOkV d) : lineB d.kind d.at_ d.to d.rel d.part d.text = joinW (wsOf d) := by
  have h2 : deedP d.kind d.at_ d.to d.rel d.part d.text := h
  unfold lineB
  rw [if_pos h2]
  unfold lineI joinW wsOf
  rw [List.take_of_length_le (by rw [strL_length]; exact Nat.le_refl _), List.drop_succ_cons, List.drop_zero, List.foldl_map]
  rfl

theorem wordP_of {w : ByteArray} (h : ∀ b ∈ w.data.toList, ¬ b.toNat = 32) : wordP w := fun j hj e => by
  have hj2 : j < w.data.toList.length := by rw [Array.length_toList]; exact hj
  rw [nth_nat (by rw [strL_length]; exact hj)] at e
  unfold strL at e
  rw [List.getElem_map] at e
  exact h _ (List.getElem_mem hj2) (by omega)
theorem wordP_L {l : List Int} (hb : bytesP l) (h : ¬ (32 : Int) ∈ l) : wordP (strOfT l) := fun j hj e => by
  rw [strL_of hb] at e
  rw [strOf_size] at hj
  exact h (e ▸ nth_mem hj)
theorem wordP_itoa (n : Int) : wordP (itoaB n) := by
  have hd : ∀ b ∈ decDigits n.natAbs, ¬ b.toNat = 32 := fun b hb => by
    have := dec_dig n.natAbs b hb
    unfold digC at this
    omega
  rcases Decidable.em (n < 0) with h | h
  · rw [← itoaB_n h]
    refine wordP_of fun b hb => ?_
    rw [ByteArray.data_append, Array.toList_append] at hb
    rcases List.mem_append.1 hb with hb | hb
    · have : b = 45 := by simpa using hb
      subst this; decide
    · exact hd b hb
  · rw [← itoaB_p (by omega)]
    exact wordP_of hd
theorem wordP_hex {s : ByteArray} : wordP (hexB (strL s)) := by
  unfold hexB
  split
  · exact fun j hj => absurd hj (Nat.not_lt_zero _)
  · refine wordP_L (hexL_bytes _) fun h => ?_
    unfold hexL at h
    obtain ⟨y, hy, h⟩ := List.mem_flatMap.1 h
    have hb := bytesP_str s y hy
    simp only [List.mem_cons, List.not_mem_nil, or_false] at h
    rcases h with h | h
    · exact (hv_dig' (x := y / 16) (by omega)).2 h.symm
    · exact (hv_dig' (x := y % 16) (by omega)).2 h.symm
theorem wordP_field (d : DeedV) (c : Int) : wordP (fieldD d c) := by
  unfold fieldD fieldB
  split
  · exact wordP_itoa _
  split
  · exact wordP_itoa _
  split
  · exact wordP_itoa _
  split
  · exact wordP_itoa _
  split
  · refine wordP_of fun b hb => ?_
    have : b = 45 := by simpa using hb
    subst this; decide
  · exact wordP_hex
theorem wordP_name : ∀ i : Fin 14, ∀ b ∈ (nameB ((i.val : Int) + 1)).data.toList, ¬ b.toNat = 32 := by decide +kernel
theorem words_fold : ∀ (l : List ByteArray) (s : ByteArray), (∀ w ∈ l, wordP w) → wordsOf (l.foldl (fun out w => out ++ (spB ++ w)) s) = wordsOf s ++ l
  | [], s, _ => by rw [List.foldl_nil, List.append_nil]
  | w :: l, s, h => by
    rw [List.foldl_cons, words_fold l _ fun x hx => h x (.tail _ hx), wordsOf_add (h w (.head _)), List.append_assoc]
    rfl
theorem words_join {d : DeedV} (hk : 1 ≤ d.kind ∧ d.kind ≤ 14) : wordsOf (joinW (wsOf d)) = wsOf d := by
  have hn : wordP (nameB d.kind) := by
    refine wordP_of ?_
    have := wordP_name ⟨(d.kind - 1).toNat, by omega⟩
    dsimp only at this
    rwa [Int.toNat_of_nonneg (by omega), show d.kind - 1 + 1 = d.kind by omega] at this
  unfold joinW wsOf
  rw [List.drop_succ_cons, List.drop_zero, words_fold _ _ fun w hw => ?_]
  · show wordsOf (nameB d.kind) ++ _ = _
    rw [wordsOf_one hn]
    rfl
  · obtain ⟨c, _, rfl⟩ := List.mem_map.1 hw
    exact wordP_field d c

/-! ### Written, then read -/
theorem deed_b {d : DeedV} (h : deedOkV d) : (0 ≤ d.at_ ∧ d.at_ ≤ 40000) ∧ (0 ≤ d.to ∧ d.to ≤ 40000) ∧ (0 ≤ d.rel ∧ d.rel ≤ 40000) ∧ (0 ≤ d.part ∧ d.part ≤ 40000) ∧ d.text.size ≤ 1000 := by
  have hs := deedP_s h
  unfold deedOkV deedP at h
  refine ⟨?_, ?_, ?_, ?_, by omega⟩ <;> ((repeat' split at h) <;> first | omega | exact h.elim)
theorem num_back {n : Int} (h : 0 ≤ n ∧ n ≤ 40000) : numOk (itoaB n) 10 ∧ numB (itoaB n) 10 = n := by
  have := (ok_itoa n).2 (by omega)
  exact ⟨this, num_itoa this⟩
theorem hex_back {s : ByteArray} (h : s.size ≤ 1000) (hs : ¬ s = ⟨#[]⟩) : unhexOk (hexB (strL s)) ∧ strOfT (unhexV (hexB (strL s))) = s ∧ ¬ hexB (strL s) = ⟨#[]⟩ ∧ ¬ hexB (strL s) = dashB := by
  have hl : (strL s).length = s.size := strL_length s
  have hz : (strOfT (hexL (strL s))).size = 2 * s.size := by rw [strOf_size, hexL_len, hl]
  have h0 : 0 < s.size := by
    rcases Nat.eq_zero_or_pos s.size with h0 | h0
    · exfalso
      refine hs ?_
      apply ByteArray.ext
      exact Array.eq_empty_of_size_eq_zero h0
    · exact h0
  obtain ⟨h1, h2⟩ := unhex_hex (bytesP_str s) (by omega)
  rw [hexB, if_neg (by omega)]
  refine ⟨h1, by rw [h2, strOf_L], fun e => ?_, fun e => ?_⟩
  · rw [e] at hz
    have : (⟨#[]⟩ : ByteArray).size = 0 := rfl
    omega
  · rw [e] at hz
    have : dashB.size = 1 := rfl
    omega
theorem field_ok {d : DeedV} (h : deedOkV d) {c : Int} (hc : formC c) : setOk c (fieldD d c) := by
  obtain ⟨ha, ht, hr, hp, hs⟩ := deed_b h
  unfold setOk fieldD fieldB
  unfold formC at hc
  rcases hc with rfl | rfl | rfl | rfl | rfl
  · rw [if_neg (by decide), if_pos rfl]; exact (num_back ha).1
  · rw [if_neg (by decide), if_neg (by decide), if_pos rfl]; exact (num_back ht).1
  · rw [if_neg (by decide), if_neg (by decide), if_neg (by decide), if_pos rfl]; exact (num_back hr).1
  · rw [if_neg (by decide), if_neg (by decide), if_neg (by decide), if_neg (by decide), if_pos rfl]; exact (num_back hp).1
  · rw [if_pos rfl, if_neg (by decide), if_neg (by decide), if_neg (by decide), if_neg (by decide)]
    split
    · exact .inl rfl
    · rename_i hx
      obtain ⟨h1, _, h3, _⟩ := hex_back hs hx
      exact .inr ⟨h1, h3⟩
theorem set_a {d : DeedV} (h : 0 ≤ d.at_ ∧ d.at_ ≤ 40000) (e : DeedV) : setV e 97 (fieldD d 97) = { e with at_ := d.at_ } := by
  rw [setV, if_neg (by decide), if_pos rfl, show fieldD d 97 = itoaB d.at_ from rfl, (num_back h).2]
theorem set_t {d : DeedV} (h : 0 ≤ d.to ∧ d.to ≤ 40000) (e : DeedV) : setV e 116 (fieldD d 116) = { e with to := d.to } := by
  rw [setV, if_neg (by decide), if_neg (by decide), if_pos rfl, show fieldD d 116 = itoaB d.to from rfl, (num_back h).2]
theorem set_r {d : DeedV} (h : 0 ≤ d.rel ∧ d.rel ≤ 40000) (e : DeedV) : setV e 114 (fieldD d 114) = { e with rel := d.rel } := by
  rw [setV, if_neg (by decide), if_neg (by decide), if_neg (by decide), if_pos rfl, show fieldD d 114 = itoaB d.rel from rfl, (num_back h).2]
theorem set_p {d : DeedV} (h : 0 ≤ d.part ∧ d.part ≤ 40000) (e : DeedV) : setV e 112 (fieldD d 112) = { e with part := d.part } := by
  rw [setV, if_neg (by decide), if_neg (by decide), if_neg (by decide), if_neg (by decide), show fieldD d 112 = itoaB d.part from rfl, (num_back h).2]
theorem set_x {d : DeedV} (h : d.text.size ≤ 1000) {e : DeedV} (he : e.text = ⟨#[]⟩) : setV e 120 (fieldD d 120) = { e with text := d.text } := by
  rw [setV, if_pos rfl]
  by_cases hx : d.text = ⟨#[]⟩
  · have e1 : fieldD d 120 = dashB := by
      show (if d.text = ⟨#[]⟩ then _ else _) = _
      rw [if_pos hx]
    rw [if_pos e1, hx, ← he]
  · have e1 : fieldD d 120 = hexB (strL d.text) := by
      show (if d.text = ⟨#[]⟩ then _ else _) = _
      rw [if_neg hx]
    obtain ⟨_, h2, _, h4⟩ := hex_back h hx
    rw [e1, if_neg h4, h2]

end Go.TL

/- A deed is read from its own line, and a line that is read is the deed's own. No conditions. -/
namespace Go.TL
set_option linter.unusedSimpArgs false
open Go.Proofs Go.RowKit
attribute [local irreducible] wpOpsT wpT EndT Ex.seq Ex.block W
open Go.Lib (itoa decDigits)

/-! ### Written, then read -/
theorem parseSt_ws (d : DeedV) : ∀ n, n ≤ (formB d.kind).size → parseSt d.kind (wsOf d) n = ((strL (formB d.kind)).take n).foldl (fun e c => setV e c (fieldD d c)) { zeroD with kind := d.kind }
  | 0, _ => rfl
  | n + 1, h => by
    have hl : n < (strL (formB d.kind)).length := by rw [strL_length]; omega
    rw [parseSt, parseSt_ws d n (by omega), wsOf_at d (by omega), List.take_succ_eq_append_getElem hl, List.foldl_append, nth_nat hl]
    rfl
theorem parse_ws (d : DeedV) : parseSt d.kind (wsOf d) (formB d.kind).size = (strL (formB d.kind)).foldl (fun e c => setV e c (fieldD d c)) { zeroD with kind := d.kind } := by
  rw [parseSt_ws d _ (Nat.le_refl _), List.take_of_length_le (by rw [strL_length]; exact Nat.le_refl _)]
theorem form_1 : formB 1 = ⟨#[97]⟩ ∧ formB 2 = ⟨#[97]⟩ ∧ formB 3 = ⟨#[97]⟩ ∧ formB 4 = ⟨#[97]⟩ ∧ formB 5 = ⟨#[97]⟩ ∧ formB 8 = ⟨#[97]⟩ := by decide
theorem form_a {k : Int} (h : k = 1 ∨ k = 2 ∨ k = 3 ∨ k = 4 ∨ k = 5 ∨ k = 8) : formB k = ⟨#[97]⟩ := by rcases h with rfl | rfl | rfl | rfl | rfl | rfl <;> rfl
theorem form_atp {k : Int} (h : k = 7 ∨ k = 14) : formB k = ⟨#[97, 116, 112]⟩ := by rcases h with rfl | rfl <;> rfl
theorem form_art {k : Int} (h : k = 11 ∨ k = 12 ∨ k = 13) : formB k = ⟨#[97, 114, 116]⟩ := by rcases h with rfl | rfl | rfl <;> rfl
theorem form_at : formB 6 = ⟨#[97, 116]⟩ := rfl
theorem form_artx : formB 9 = ⟨#[97, 114, 116, 120]⟩ := rfl
theorem form_arpt : formB 10 = ⟨#[97, 114, 112, 116]⟩ := rfl

theorem parse_back {d : DeedV} (h : deedOkV d) : parseSt d.kind (wsOf d) (formB d.kind).size = d := by
  obtain ⟨ha, ht, hr, hp, hs⟩ := deed_b h
  have hk := deedP_k h
  rw [parse_ws]
  have h2 : deedP d.kind d.at_ d.to d.rel d.part d.text := h
  unfold deedP at h2
  obtain ⟨k, a, t, r, p, s⟩ := d
  dsimp only at *
  by_cases h1 : k = 1 ∨ k = 2 ∨ k = 3 ∨ k = 4 ∨ k = 5 ∨ k = 8
  · obtain ⟨rfl, rfl, rfl, rfl⟩ : t = 0 ∧ r = 0 ∧ p = 0 ∧ s = ⟨#[]⟩ := by
      (repeat' split at h2) <;> first | omega | exact h2.2 | exact h2.elim
    rw [form_a h1]
    show setV _ 97 (fieldD _ 97) = _
    rw [set_a (by exact ha)]
    rfl
  by_cases h3 : k = 6
  · subst h3
    obtain ⟨rfl, rfl, rfl⟩ : r = 0 ∧ p = 0 ∧ s = ⟨#[]⟩ := by
      (repeat' split at h2) <;> first | omega | exact h2.2.2 | exact h2.elim
    rw [form_at]
    show setV (setV _ 97 (fieldD _ 97)) 116 (fieldD _ 116) = _
    rw [set_a (by exact ha), set_t (by exact ht)]
    rfl
  by_cases h4 : k = 7 ∨ k = 14
  · obtain ⟨rfl, rfl⟩ : r = 0 ∧ s = ⟨#[]⟩ := by
      (repeat' split at h2) <;> first | omega | exact h2.2.2.2 | exact h2.elim
    rw [form_atp h4]
    show setV (setV (setV _ 97 (fieldD _ 97)) 116 (fieldD _ 116)) 112 (fieldD _ 112) = _
    rw [set_a (by exact ha), set_t (by exact ht), set_p (by exact hp)]
    rfl
  by_cases h5 : k = 9
  · subst h5
    obtain rfl : p = 0 := by
      (repeat' split at h2) <;> first | omega | exact h2.2.2.2.2 | exact h2.elim
    rw [form_artx]
    show setV (setV (setV (setV _ 97 (fieldD _ 97)) 114 (fieldD _ 114)) 116 (fieldD _ 116)) 120 (fieldD _ 120) = _
    rw [set_a (by exact ha), set_r (by exact hr), set_t (by exact ht), set_x (by exact hs) rfl]
    rfl
  by_cases h6 : k = 10
  · subst h6
    obtain rfl : s = ⟨#[]⟩ := by
      (repeat' split at h2) <;> first | omega | exact h2.2.2.2.2 | exact h2.elim
    rw [form_arpt]
    show setV (setV (setV (setV _ 97 (fieldD _ 97)) 114 (fieldD _ 114)) 112 (fieldD _ 112)) 116 (fieldD _ 116) = _
    rw [set_a (by exact ha), set_r (by exact hr), set_p (by exact hp), set_t (by exact ht)]
    rfl
  · obtain ⟨rfl, rfl⟩ : p = 0 ∧ s = ⟨#[]⟩ := by
      (repeat' split at h2) <;> first | omega | exact h2.2.2.2 | exact h2.elim
    rw [form_art (by omega)]
    show setV (setV (setV _ 97 (fieldD _ 97)) 114 (fieldD _ 114)) 116 (fieldD _ 116) = _
    rw [set_a (by exact ha), set_r (by exact hr), set_t (by exact ht)]
    rfl

theorem kind_name {k : Int} (h : 1 ≤ k ∧ k ≤ 14) : kindOf (nameB k) = k := by
  have h2 := (kindSt_at (k - 1).toNat (by omega)).1
  rw [Int.toNat_of_nonneg (by omega), kindSt_of] at h2
  rw [nameB, if_pos h, h2]
  omega

theorem fieldB_small {d : DeedV} (h : deedOkV d) (c : Int) : (fieldD d c).size ≤ 2000 := by
  obtain ⟨ha, ht, hr, hp, hs⟩ := deed_b h
  have i64 : ∀ {n : Int}, 0 ≤ n ∧ n ≤ 40000 → (itoaB n).size ≤ 2000 := fun {n} hn => by
    have := itoaB_size (n := n) (by unfold I64; omega)
    omega
  unfold fieldD fieldB
  split
  · exact i64 ha
  split
  · exact i64 ht
  split
  · exact i64 hr
  split
  · exact i64 hp
  split
  · show 1 ≤ 2000; decide
  · rw [hexB, if_neg (by rw [strL_length]; omega), strOf_size, hexL_len, strL_length]; omega
theorem fold_small {d : DeedV} (h : deedOkV d) : ∀ (l : List Int) (s : ByteArray), (l.foldl (fun out c => out ++ (spB ++ fieldD d c)) s).size ≤ s.size + 2001 * l.length
  | [], s => by simp
  | c :: l, s => by
    rw [List.foldl_cons]
    refine Nat.le_trans (fold_small h l _) ?_
    have h1 := fieldB_small h c
    have h2 : spB.size = 1 := rfl
    rw [ByteArray.size_append, ByteArray.size_append, List.length_cons]
    omega
theorem line_small {d : DeedV} (h : deedOkV d) : (lineB d.kind d.at_ d.to d.rel d.part d.text).size ≤ 20000 := by
  have h2 : deedP d.kind d.at_ d.to d.rel d.part d.text := h
  rw [lineB, if_pos h2, lineI]
  have h3 := fold_small h ((strL (formB d.kind)).take (formB d.kind).size) (nameB d.kind)
  have h4 := nameB_size d.kind
  have h5 := formB_size d.kind
  rw [List.length_take, strL_length] at h3
  refine Nat.le_trans h3 ?_
  omega
theorem line_back {d : DeedV} (h : deedOkV d) : parseV (lineB d.kind d.at_ d.to d.rel d.part d.text) = (d, 0) := by
  have hk := deedP_k h
  have hl := line_small h
  rw [parseV, if_neg (by omega), line_words h, words_join hk]
  have h0 : nth (wsOf d) 0 = nameB d.kind := rfl
  have hf : fieldsOk d.kind (wsOf d) (formB d.kind).size := fun i hi => by
    rw [wsOf_at d hi]
    exact field_ok h (formB_mem _ i hi)
  rw [parseW, h0, kind_name hk, if_neg (by omega), if_neg (fun hh => hh (wsOf_len d)), if_neg (fun hh => hh hf), parse_back h, if_neg (fun hh => hh h)]

/-! ### Read, then written -/
theorem num_ok {c : Int} {w : ByteArray} (hc : ¬ c = 120) (h : setOk c w) : itoaB (numB w 10) = w := by
  rw [setOk, if_neg hc] at h
  exact text_num h
theorem unhex_ne {w : ByteArray} (h : unhexOk w) (hw : ¬ w = ⟨#[]⟩) : ¬ strOfT (unhexV w) = ⟨#[]⟩ := fun e => by
  have h1 : (strOfT (unhexV w)).size = w.size / 2 := by rw [strOf_size, unhexV, if_pos h, unhexL_len]
  rw [e] at h1
  have h2 : (⟨#[]⟩ : ByteArray).size = 0 := rfl
  have h3 := h.1
  have h4 : w.size = 0 := by omega
  refine hw ?_
  apply ByteArray.ext
  exact Array.eq_empty_of_size_eq_zero h4
theorem text_ok {k a t r p : Int} {w : ByteArray} (h : setOk 120 w) : fieldD ⟨k, a, t, r, p, if w = dashB then ⟨#[]⟩ else strOfT (unhexV w)⟩ 120 = w := by
  show (if (if w = dashB then (⟨#[]⟩ : ByteArray) else strOfT (unhexV w)) = ⟨#[]⟩ then (⟨#[45]⟩ : ByteArray) else hexB (strL (if w = dashB then (⟨#[]⟩ : ByteArray) else strOfT (unhexV w)))) = w
  by_cases hd : w = dashB
  · rw [if_pos hd, if_pos rfl, hd]
  · rw [setOk, if_pos rfl] at h
    obtain ⟨h1, h2⟩ := h.resolve_left hd
    rw [if_neg hd, if_neg (unhex_ne h1 h2), hex_unhex h1]
theorem set_x2 (e : DeedV) (w : ByteArray) (he : e.text = ⟨#[]⟩) : setV e 120 w = { e with text := if w = dashB then ⟨#[]⟩ else strOfT (unhexV w) } := by
  rw [setV, if_pos rfl]
  split
  · rw [← he]
  · rfl

theorem back_ws {k : Int} {ws : List ByteArray} (hk : 1 ≤ k ∧ k ≤ 14) (hn : nth ws 0 = nameB k) (hl : ws.length = (formB k).size + 1) (hf : fieldsOk k ws (formB k).size) : wsOf (parseSt k ws (formB k).size) = ws := by
  by_cases h1 : k = 1 ∨ k = 2 ∨ k = 3 ∨ k = 4 ∨ k = 5 ∨ k = 8
  · have e := form_a h1
    rw [e] at hl hf ⊢
    match ws, hl with
    | [w0, w1], _ =>
      have f0 := hf 0 (by decide)
      rw [e] at f0
      have q : parseSt k [w0, w1] (⟨#[97]⟩ : ByteArray).size = ⟨k, numB w1 10, 0, 0, 0, ⟨#[]⟩⟩ := by
        show setV _ (nth (strL (formB k)) ((0 : Nat) : Int)) w1 = _
        rw [e]; rfl
      rw [q, wsOf]
      dsimp only
      rw [e]
      show [nameB k, itoaB (numB w1 10)] = _
      rw [num_ok (c := 97) (w := w1) (by decide) f0, ← hn]; rfl
  by_cases h3 : k = 6
  · subst h3
    rw [form_at] at hl hf ⊢
    match ws, hl with
    | [w0, w1, w2], _ =>
      have f0 := hf 0 (by decide)
      have f1 := hf 1 (by decide)
      have q : parseSt 6 [w0, w1, w2] (⟨#[97, 116]⟩ : ByteArray).size = ⟨6, numB w1 10, numB w2 10, 0, 0, ⟨#[]⟩⟩ := rfl
      rw [q, wsOf]
      show [nameB 6, itoaB (numB w1 10), itoaB (numB w2 10)] = _
      rw [num_ok (c := 97) (w := w1) (by decide) f0, num_ok (c := 116) (w := w2) (by decide) f1, ← hn]; rfl
  by_cases h4 : k = 7 ∨ k = 14
  · have e := form_atp h4
    rw [e] at hl hf ⊢
    match ws, hl with
    | [w0, w1, w2, w3], _ =>
      have f0 := hf 0 (by decide)
      have f1 := hf 1 (by decide)
      have f2 := hf 2 (by decide)
      rw [e] at f0 f1 f2
      have q : parseSt k [w0, w1, w2, w3] (⟨#[97, 116, 112]⟩ : ByteArray).size = ⟨k, numB w1 10, numB w2 10, 0, numB w3 10, ⟨#[]⟩⟩ := by
        show setV (setV (setV _ (nth (strL (formB k)) ((0 : Nat) : Int)) w1) (nth (strL (formB k)) ((1 : Nat) : Int)) w2) (nth (strL (formB k)) ((2 : Nat) : Int)) w3 = _
        rw [e]; rfl
      rw [q, wsOf]
      dsimp only
      rw [e]
      show [nameB k, itoaB (numB w1 10), itoaB (numB w2 10), itoaB (numB w3 10)] = _
      rw [num_ok (c := 97) (w := w1) (by decide) f0, num_ok (c := 116) (w := w2) (by decide) f1, num_ok (c := 112) (w := w3) (by decide) f2, ← hn]; rfl
  by_cases h5 : k = 9
  · subst h5
    rw [form_artx] at hl hf ⊢
    match ws, hl with
    | [w0, w1, w2, w3, w4], _ =>
      have f0 := hf 0 (by decide)
      have f1 := hf 1 (by decide)
      have f2 := hf 2 (by decide)
      have f3 := hf 3 (by decide)
      have q : parseSt 9 [w0, w1, w2, w3, w4] (⟨#[97, 114, 116, 120]⟩ : ByteArray).size = ⟨9, numB w1 10, numB w3 10, numB w2 10, 0, if w4 = dashB then ⟨#[]⟩ else strOfT (unhexV w4)⟩ := by
        show setV ⟨9, numB w1 10, numB w3 10, numB w2 10, 0, ⟨#[]⟩⟩ 120 w4 = _
        rw [set_x2 _ _ rfl]
      rw [q, wsOf]
      show [nameB 9, itoaB (numB w1 10), itoaB (numB w2 10), itoaB (numB w3 10), fieldD _ 120] = _
      rw [num_ok (c := 97) (w := w1) (by decide) f0, num_ok (c := 114) (w := w2) (by decide) f1, num_ok (c := 116) (w := w3) (by decide) f2, text_ok (w := w4) f3, ← hn]; rfl
  by_cases h6 : k = 10
  · subst h6
    rw [form_arpt] at hl hf ⊢
    match ws, hl with
    | [w0, w1, w2, w3, w4], _ =>
      have f0 := hf 0 (by decide)
      have f1 := hf 1 (by decide)
      have f2 := hf 2 (by decide)
      have f3 := hf 3 (by decide)
      have q : parseSt 10 [w0, w1, w2, w3, w4] (⟨#[97, 114, 112, 116]⟩ : ByteArray).size = ⟨10, numB w1 10, numB w4 10, numB w2 10, numB w3 10, ⟨#[]⟩⟩ := rfl
      rw [q, wsOf]
      show [nameB 10, itoaB (numB w1 10), itoaB (numB w2 10), itoaB (numB w3 10), itoaB (numB w4 10)] = _
      rw [num_ok (c := 97) (w := w1) (by decide) f0, num_ok (c := 114) (w := w2) (by decide) f1, num_ok (c := 112) (w := w3) (by decide) f2, num_ok (c := 116) (w := w4) (by decide) f3, ← hn]; rfl
  · have e := form_art (k := k) (by omega)
    rw [e] at hl hf ⊢
    match ws, hl with
    | [w0, w1, w2, w3], _ =>
      have f0 := hf 0 (by decide)
      have f1 := hf 1 (by decide)
      have f2 := hf 2 (by decide)
      rw [e] at f0 f1 f2
      have q : parseSt k [w0, w1, w2, w3] (⟨#[97, 114, 116]⟩ : ByteArray).size = ⟨k, numB w1 10, numB w3 10, numB w2 10, 0, ⟨#[]⟩⟩ := by
        show setV (setV (setV _ (nth (strL (formB k)) ((0 : Nat) : Int)) w1) (nth (strL (formB k)) ((1 : Nat) : Int)) w2) (nth (strL (formB k)) ((2 : Nat) : Int)) w3 = _
        rw [e]; rfl
      rw [q, wsOf]
      dsimp only
      rw [e]
      show [nameB k, itoaB (numB w1 10), itoaB (numB w2 10), itoaB (numB w3 10)] = _
      rw [num_ok (c := 97) (w := w1) (by decide) f0, num_ok (c := 114) (w := w2) (by decide) f1, num_ok (c := 116) (w := w3) (by decide) f2, ← hn]; rfl

theorem kind_hit {w : ByteArray} (h : ¬ kindOf w = 0) : w = nameB (kindOf w) := by
  have hb := kindOf_b w
  have hf : 0 ≤ findBy (fun x => decide (w = x)) wordsB := by unfold kindOf at hb h; omega
  have hh := of_decide_eq_true (findBy_hit (p := fun x => decide (w = x)) (l := wordsB) hf)
  rw [nameB, if_pos (by omega), show kindOf w - 1 = findBy (fun x => decide (w = x)) wordsB by unfold kindOf; omega]
  exact hh
/-- What is read: it is written as it was. -/
theorem parse_line {s : ByteArray} (h : (parseV s).2 = 0) : deedOkV (parseV s).1 ∧ lineB (parseV s).1.kind (parseV s).1.at_ (parseV s).1.to (parseV s).1.rel (parseV s).1.part (parseV s).1.text = s := by
  unfold parseV at h ⊢
  split at h
  · cases h
  rename_i hs
  rw [if_neg hs]
  unfold parseW at h ⊢
  split at h
  · cases h
  rename_i h1
  split at h
  · cases h
  rename_i h2
  split at h
  · cases h
  rename_i h3
  split at h
  · cases h
  rename_i h4
  rw [if_neg h1, if_neg h2, if_neg h3, if_neg h4]
  dsimp only
  have h2 := Decidable.not_not.1 h2
  have h3 := Decidable.not_not.1 h3
  have h4 := Decidable.not_not.1 h4
  have hb := kindOf_b (nth (wordsOf s) 0)
  refine ⟨h4, ?_⟩
  rw [line_words h4, back_ws (by omega) (kind_hit h1) h2 h3, joinW_words]
/-- What is not read is no deed. -/
theorem parse_none {s : ByteArray} (h : ¬ (parseV s).2 = 0) : (parseV s).1 = zeroD := by
  unfold parseV at h ⊢
  split
  · rfl
  rename_i hs
  rw [if_neg hs] at h
  unfold parseW at h ⊢
  split
  · rfl
  split
  · rfl
  split
  · rfl
  split
  · rfl
  rename_i h1 h2 h3 h4
  rw [if_neg h1, if_neg h2, if_neg h3, if_neg h4] at h
  exact absurd rfl h

end Go.TL
