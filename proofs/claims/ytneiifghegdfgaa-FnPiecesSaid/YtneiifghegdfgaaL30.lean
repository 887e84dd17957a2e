/- The law of the records of a drawn list, on trees. No conditions but those that are written. -/
import Derived.Test.YtneiifghegdfgaaJJ10L29
import Derived.Test.YtneiifghegdfgaaJJ11J13
import Derived.Test.YtneiifghegdfgaaJL14G21
namespace Go.TL
set_option linter.unusedSimpArgs false
open Go.Proofs Go.RowKit
attribute [local irreducible] wpOpsT wpT EndT Ex.seq Ex.block W

set_option maxHeartbeats 4000000 in
theorem laws_big (k : Nat) (l : List Int) : CallsT Try.prog [] F.laws_big [.sl false k l.length 1 (rowT u8C l)] (.v (.bool (decide (1048576 < (l.length : Int))))) [] := by
  refine fnT C.laws_big ?_
  refine run ?_
  exact r_end [] []
instance (k : Nat) (l : List Int) : Con Try.prog F.laws_big [.sl false k l.length 1 (rowT u8C l)] True (.v (.bool (decide (1048576 < (l.length : Int))))) [] := ⟨fun _ => laws_big k l⟩

theorem pieceNew_cap {r sz : Int} {d : ByteArray} : (pieceNewB r sz d).size ≤ 62 := by
  unfold pieceNewB
  split
  · rename_i h
    have hn := nums_len [1, r, sz]
    have hs := strOf_size ([1, r, sz].flatMap (putNumL 10))
    have hd := h.1.2
    simp only [List.length_cons, List.length_nil] at hn
    rw [ByteArray.size_append]; omega
  · decide
theorem piecePut_cap {r i : Int} {s : ByteArray} : (piecePutB r i s).size ≤ 62 := by
  unfold piecePutB
  split
  · rename_i h
    have hn := nums_len [2, r, i]
    have hp := putNumL_len 10 s.size
    simp only [List.length_cons, List.length_nil] at hn
    rw [strOf_size, List.length_append, textL, List.length_append, strL_length]; omega
  · decide
theorem partR_cap {r : Int} {P : List ByteArray} {j : Nat} : ∀ s ∈ partR r P j, s.size ≤ 62 := fun s hs => by
  unfold partR at hs
  obtain ⟨i, _, hs⟩ := List.mem_flatMap.1 hs
  split at hs
  · cases hs
  · rw [List.mem_singleton] at hs
    rw [hs]
    exact piecePut_cap
theorem recsL_cap {l : List HeldV} : ∀ s ∈ recsL l, s.size ≤ 62 := fun s hs => by
  unfold recsL at hs
  obtain ⟨h, _, hs⟩ := List.mem_flatMap.1 hs
  rcases List.mem_cons.1 hs with rfl | hs
  · exact pieceNew_cap
  · exact partR_cap s hs
theorem partR_len {r : Int} {P : List ByteArray} : ∀ j, (partR r P j).length ≤ j
  | 0 => by simp [partR]
  | j + 1 => by
    have := partR_len (r := r) (P := P) j
    rw [partR_s, List.length_append]
    split <;> simp <;> omega
theorem recsL_len : ∀ {l : List HeldV}, (∀ h ∈ l, h.parts.length ≤ 70) → (recsL l).length ≤ 71 * l.length
  | [], _ => by simp [recsL]
  | h :: l, hh => by
    have h1 := recsL_len (l := l) fun x hx => hh x (.tail _ hx)
    have h2 := partR_len (r := h.rel) (P := h.parts) h.parts.length
    have h3 := hh h (.head _)
    simp only [recsL, List.flatMap_cons, recH, List.length_append, List.length_cons] at h1 ⊢
    omega
theorem recsL_take {l : List HeldV} {i : Nat} (hi : i < l.length) : recsL (l.take (i + 1)) = recsL (l.take i) ++ recH (nth l (i : Nat)) := by
  rw [take_nth hi, recsL, List.flatMap_append]; simp [recsL]
theorem sealsB_cap {c : Nat} : ∀ ts : List ByteArray, (∀ s ∈ ts, s.size ≤ c) → (sealsB ts).length ≤ (14 + c) * ts.length
  | [], _ => by simp [sealsB]
  | s :: ts, h => by
    have h1 := h s (.head _)
    have h2 := sealsB_cap ts fun t ht => h t (.tail _ ht)
    have h3 := sealB_len (strL s)
    rw [strL_length] at h3
    simp only [sealsB, List.flatMap_cons, List.length_append, List.length_cons, Nat.mul_add] at h2 ⊢
    omega

/-- What is loaded of the journal of a list's records is the list. -/
theorem hload_ja {o : List HeldV} (h : heldsP o) (h1 : (recsL o).length ≤ 100) : hload 40000 [jaF 1 (recsL o)] = o ∧ bndFileS [jaF 1 (recsL o)] ∧ totFileS [jaF 1 (recsL o)] ≤ 1048576 := by
  have hc := sealsB_cap (c := 62) (recsL o) recsL_cap
  have hz := strOf_size (sealsB (recsL o))
  have hb : bndFileS [jaF 1 (recsL o)] := ⟨by simp, fun x hx => by
    rw [List.mem_singleton] at hx
    subst hx
    exact ⟨by show (strOfT (sealsB (recsL o))).size ≤ _; omega, (show (⟨#[]⟩ : ByteArray).size ≤ 140737488351232 by decide)⟩⟩
  have hds : diskS [jaF 1 (recsL o)] = (strOfT (sealsB (recsL o))).size := by simp [diskS, sumI, fileS, jaF]; rfl
  have htt : totFileS [jaF 1 (recsL o)] = 1 + (strOfT (sealsB (recsL o))).size := by simp [totFileS, sumI, totFileV, totFile, jaF]; rfl
  have hf : findF [jaF 1 (recsL o)] 1 = 0 := findF_one (jaF 1 (recsL o))
  have hd : diskP 40000 [jaF 1 (recsL o)] := ⟨by decide, by rw [hds]; omega, fun i hi => by
    obtain rfl : i = 0 := by simpa using hi
    exact ⟨(show (0 : Int) ≤ 1 ∧ (1 : Int) ≤ 7 by decide), fun k => absurd k.1 (by decide)⟩⟩
  have hdr : drO 40000 [jaF 1 (recsL o)] 1 := ⟨hd, by rw [hf]; decide⟩
  have hs : drS 40000 [jaF 1 (recsL o)] 1 = strOfT (sealsB (recsL o)) := by
    rw [drS, if_pos hdr, hf, nth_0]
    exact ByteArray.append_empty
  refine ⟨?_, hb, by rw [htt]; omega⟩
  rw [hload, jdL, if_pos hdr, hs, strL_ofJ (sealsB_bytes _)]
  have hj := jr_seals (recsL o) [] 2000 (fun s hs => by have := recsL_cap s hs; omega) (fun x hx => by cases hx) (by omega)
  rw [List.nil_append] at hj
  rw [show jrL (sealsB (recsL o)) 2000 0 = recsL o from hj]
  exact hload_all o [] h

theorem row_strJ : ∀ l : List ByteArray, rowT strC l = l.map fun s => .v (.string s)
  | [] => rfl
  | s :: l => by rw [rowT_cons, row_strJ l]; rfl
theorem at_strJ {l : List ByteArray} {j : Nat} (hj : j < l.length) : (rowT strC l)[j]? = some (.v (.string (nth l (j : Nat)))) := by
  rw [row_strJ, List.getElem?_map, List.getElem?_eq_getElem hj, nth_nat hj]; rfl
attribute [local go_sem] at_strJ

set_option linter.unusedSimpArgs false in
set_option maxHeartbeats 16000000 in
set_option maxHeartbeats 4000000 in
theorem laws_FnPieces (l : List Int) (hpre : (∀ x ∈ l, 0 ≤ x ∧ x < 256) ∧ l.length ≤ 140737488351232) : CallsT Try.prog [] F.laws_FnPieces [.sl false 0 l.length 1 (rowT u8C l)] (.v (.bool true)) [] := by
  refine fnT C.laws_FnPieces ?_
  have hl := hpre
  refine run ?_
  refine r_ifd (fun h => ?_) (fun h => ?_)
  · refine run ?_
    exact r_end [] []
  obtain ⟨o, ho, hd⟩ := drawHelds_ex l hl
  obtain ⟨hbo, hto⟩ := capJ_tot ho
  have c1 := spec_HeldsOk 1 o hbo
  have hol := ho.1
  refine runC ?_
  refine r_callp false hd ?_
  refine runC ?_
  refine r_callp true c1 ?_
  by_cases hok : heldsP o
  rotate_left
  · have c2 := impl_HeldsOk 1 o hbo
    rw [decide_eq_false hok] at c2 ⊢
    refine runC ?_
    refine r_callp true c2 ?_
    refine run ?_
    exact r_end [] []
  rw [decide_eq_true hok]
  have hrl : (recsL o).length ≤ 71 * o.length := recsL_len fun x hx => (ho.2 x hx).2.1
  refine run ?_
  refine r_for o.length (fun i => [(3, .ref 0 [] 0 o.length), (4, .ref 1 [] 0 (recsL (o.take i)).length), (5, .v (.int .i64 i))]) (fun i => [⟨4, true, rowT heldO o⟩, ⟨1, true, rowT strC (recsL (o.take i))⟩]) (fun _ => True) [0, 1] [] trivial Gc.of (fun k hk _ => ?_) (fun _ => ?_)
  · have hx := ho.2 _ (nth_mem hk)
    have hrt := recsL_take hk
    have hrk : (recsL (o.take k)).length ≤ 71 * k := by
      have := recsL_len (l := o.take k) fun x hx => (ho.2 x (List.mem_of_mem_take hx)).2.1
      rw [List.length_take] at this; omega
    rw [hrt, row_split (enc := heldO) o k hk]
    have ht1 : (o.take k).length = k := by rw [List.length_take]; omega
    generalize nth o (k : Nat) = x at *
    obtain ⟨hxd, hxl, hxs⟩ := hx
    have hrh : recsL (o.take k) ++ recH x = (recsL (o.take k) ++ [pieceNewB x.rel x.size x.dig]) ++ partR x.rel x.parts x.parts.length := by rw [List.append_assoc]; rfl
    rw [hrh]
    generalize hR : recsL (o.take k) = R at *
    have hpl := partR_len (r := x.rel) (P := x.parts)
    dsimp only [heldO, List.cons_append, List.nil_append]
    by_cases hp : x.parts.length = 0
    · have hpn := List.eq_nil_of_length_eq_zero hp
      have hpr : partR x.rel x.parts x.parts.length = [] := by rw [hpn]; rfl
      rw [hpr, List.append_nil, hpn, show ownC ([] : List ByteArray).length 1 (rowT strC []) = .sl false 0 0 1 [] from ownC_nil _ _]
      refine run ?_
      refine r_for 0 (fun j => [(3, .ref 0 [] 0 o.length), (4, .ref 1 [] 0 (R ++ [pieceNewB x.rel x.size x.dig]).length), (5, .v (.int .i64 k)), (6, .ptr 2 [] 0), (7, .v (.int .i64 j))]) (fun _ => [⟨4, true, rowT heldO (o.take k) ++ (.v (.int .i64 x.rel) :: .v (.int .i64 x.size) :: .v (.string x.dig) :: .sl false 0 0 1 [] :: rowT heldO (o.drop (k + 1)))⟩, ⟨1, true, rowT strC (R ++ [pieceNewB x.rel x.size x.dig])⟩, ⟨0, true, [.v (.int .i64 x.size), .v (.string x.dig), .sl false 0 0 1 []]⟩]) (fun _ => True) [0, 4, 2] [] trivial Gc.of (fun j hj _ => absurd hj (Nat.not_lt_zero _)) (fun _ => ?_)
      refine run ?_
      exact ⟨[0, 1], [], Gc.of, trivial⟩
    · rw [ownC_pos _ _ hp]
      refine run ?_
      refine r_for x.parts.length (fun j => [(3, .ref 0 [] 0 o.length), (4, .ref 1 [] 0 (R ++ [pieceNewB x.rel x.size x.dig] ++ partR x.rel x.parts j).length), (5, .v (.int .i64 k)), (6, .ptr 2 [] 0), (7, .v (.int .i64 j))]) (fun j => [⟨4, true, rowT heldO (o.take k) ++ (.v (.int .i64 x.rel) :: .v (.int .i64 x.size) :: .v (.string x.dig) :: .sl true 0 x.parts.length 1 (rowT strC x.parts) :: rowT heldO (o.drop (k + 1)))⟩, ⟨1, true, rowT strC (R ++ [pieceNewB x.rel x.size x.dig] ++ partR x.rel x.parts j)⟩, ⟨0, true, [.v (.int .i64 x.size), .v (.string x.dig), .ref 0 [k * 4 + 3] 0 x.parts.length]⟩]) (fun _ => True) [0, 4, 2] [] trivial (Gc.of (hf := ?_) (hs := ?_)) (fun j hj _ => ?_) (fun _ => ?_)
      · simp only [show partR x.rel x.parts 0 = [] from rfl, List.append_nil]
        (simp only [go_sem, ↓reduceIte, Nat.reduceEqDiff, Nat.reduceMul, Nat.reduceAdd, Nat.reduceSub, Nat.reduceLT, Nat.reduceGT, Nat.reduceLeDiff, Nat.reduceBEq, Int.reduceLT, Int.reduceLE, Int.reduceNe, Int.reduceEq, Int.reduceToNat, Int.reduceAdd, Int.reduceSub, Int.reduceMul, Int.reduceNeg, Nat.reducePow, Int.reducePow, Nat.reduceSubDiff, decide_true, decide_false, reduceCtorEq, or_self, or_false, false_or, or_true, true_or, if_false, gt_iff_lt, ge_iff_le, ne_eq, not_true_eq_false, not_false_eq_true, and_self, beq_self_eq_true, Bool.false_eq_true]; try (repeat (first | exact True.intro | exact Wk.refl _ | exact Wk.nil _ _ | exact Wk.dead _ | exact Wk.bT (by assumption) | exact Wk.bF (by assumption) | exact Wk.eqI (by omega) | exact WkS.refl _ | exact Wks.same _ | exact Wks.nil | exact WkS.nil | refine And.intro ?_ ?_ | refine Wk.aggs ?_ | refine Wk.tups ?_ | refine Wks.cons ?_ ?_ | refine WkS.cons (by first | exact fun _ => rfl | exact fun h => absurd h Bool.false_ne_true) ?_ ?_ ?_ | assumption | exact (fun h => h) | exact (fun h => absurd h Bool.false_ne_true) | intro _)))
      · simp only [show partR x.rel x.parts 0 = [] from rfl, List.append_nil]
        (simp (disch := omega) only [go_sem, ↓reduceIte, Nat.reduceEqDiff, Nat.reduceMul, Nat.reduceAdd, Nat.reduceSub, Nat.reduceLT, Nat.reduceGT, Nat.reduceLeDiff, Nat.reduceBEq, Int.reduceLT, Int.reduceLE, Int.reduceNe, Int.reduceEq, Int.reduceToNat, Int.reduceAdd, Int.reduceSub, Int.reduceMul, Int.reduceNeg, Nat.reducePow, Int.reducePow, Nat.reduceSubDiff, decide_true, decide_false, reduceCtorEq, or_self, or_false, false_or, or_true, true_or, if_false, gt_iff_lt, ge_iff_le, ne_eq, not_true_eq_false, not_false_eq_true, and_self, beq_self_eq_true, Bool.false_eq_true, List.append_assoc]; exact WkS.refl _)
      · have hps := hxs _ (nth_mem hj)
        have hpj := hpl j
        have hpj2 := partR_s x.rel x.parts j
        refine run ?_
        refine r_ifd (fun h5 => ?_) (fun h5 => ?_)
        · rw [if_neg h5] at hpj2
          rw [hpj2, ← List.append_assoc]
          refine run ?_
          exact ⟨[0, 4, 2], [], Gc.of, trivial⟩
        · rw [if_pos (Decidable.not_not.1 h5), List.append_nil] at hpj2
          rw [hpj2]
          refine run ?_
          exact ⟨[0, 1, 2], [], Gc.of, trivial⟩
      · refine run ?_
        exact ⟨[0, 1], [], Gc.of, trivial⟩
  · rw [List.take_length]
    refine run ?_
    refine r_ifd (fun h => ?_) (fun h => ?_)
    · refine run ?_
      exact r_end [] []
    have hr1 : (recsL o).length ≤ 100 := by omega
    obtain ⟨hh, hfb, hft⟩ := hload_ja hok hr1
    have hsc := sealsB_cap (c := 62) (recsL o) recsL_cap
    have hj := spec_JournalAdd0 1 1 40000 1 (recsL o) (by omega) (by omega) (fun s hs => by have := recsL_cap s hs; omega) hr1 (by omega)
    have him := impl_HeldLoad 1 40000 [jaF 1 (recsL o)] hfb hft
    rw [hh] at him
    refine runC ?_
    refine r_callp true hj ?_ (ts1 := [.agg [.v (.int .i64 40000), .sl false 0 0 3 []], .v (.int .i64 1), .ref 1 [] 0 (recsL o).length]) (hk := .cons (.aggs (.cons (.refl _) (.cons (.nil _ _) .nil))) (.same _))
    refine runC ?_
    refine r_callp true him ?_
    refine run ?_
    refine r_for o.length (fun k => [(3, .ref 0 [] 0 o.length), (10, .ref 1 [] 0 o.length), (11, .v (.int .i64 k))]) (fun _ => [⟨4, true, rowT heldO o⟩, ⟨4, true, rowT heldO o⟩]) (fun _ => True) [0, 3] [] trivial Gc.of (fun k hk _ => ?_) (fun _ => ?_)
    · have hx := ho.2 _ (nth_mem hk)
      rw [row_split (enc := heldO) o k hk]
      have ht1 : (o.take k).length = k := by rw [List.length_take]; omega
      generalize nth o (k : Nat) = x at *
      obtain ⟨_, hxl, hxs⟩ := hx
      dsimp only [heldO, List.cons_append, List.nil_append]
      by_cases hp : x.parts.length = 0
      · have hpn := List.eq_nil_of_length_eq_zero hp
        rw [hpn, show ownC ([] : List ByteArray).length 1 (rowT strC []) = .sl false 0 0 1 [] from ownC_nil _ _]
        refine runS ?_
        refine r_any [(3, .ref 0 [] 0 o.length), (10, .ref 1 [] 0 o.length), (11, .v (.int .i64 k)), (12, .ptr 2 [] 0), (13, .ptr 3 [] 0)] [⟨4, true, rowT heldO (o.take k) ++ (.v (.int .i64 x.rel) :: .v (.int .i64 x.size) :: .v (.string x.dig) :: .sl false 0 0 1 [] :: rowT heldO (o.drop (k + 1)))⟩, ⟨4, true, rowT heldO (o.take k) ++ (.v (.int .i64 x.rel) :: .v (.int .i64 x.size) :: .v (.string x.dig) :: .sl false 0 0 1 [] :: rowT heldO (o.drop (k + 1)))⟩, ⟨0, true, [.v (.int .i64 x.size), .v (.string x.dig), .sl false 0 0 1 []]⟩, ⟨0, true, [.v (.int .i64 x.size), .v (.string x.dig), .sl false 0 0 1 []]⟩] ?_ ?_
        rotate_left
        · refine a_two 10 ?_ ?_
          · refine any_lin ?_
            refine run ?_
            exact ⟨[0, 1, 2, 3], [], Gc.of⟩
          · refine any_lin ?_
            refine run ?_
            exact ⟨[0, 1, 3, 2], [], Gc.of⟩
        refine run ?_
        refine r_for 0 (fun j => [(3, .ref 0 [] 0 o.length), (10, .ref 1 [] 0 o.length), (11, .v (.int .i64 k)), (12, .ptr 2 [] 0), (13, .ptr 3 [] 0), (14, .v (.int .i64 j))]) (fun _ => [⟨4, true, rowT heldO (o.take k) ++ (.v (.int .i64 x.rel) :: .v (.int .i64 x.size) :: .v (.string x.dig) :: .sl false 0 0 1 [] :: rowT heldO (o.drop (k + 1)))⟩, ⟨4, true, rowT heldO (o.take k) ++ (.v (.int .i64 x.rel) :: .v (.int .i64 x.size) :: .v (.string x.dig) :: .sl false 0 0 1 [] :: rowT heldO (o.drop (k + 1)))⟩, ⟨0, true, [.v (.int .i64 x.size), .v (.string x.dig), .sl false 0 0 1 []]⟩, ⟨0, true, [.v (.int .i64 x.size), .v (.string x.dig), .sl false 0 0 1 []]⟩]) (fun _ => True) [0, 1, 2, 3] [] trivial Gc.of (fun j hj _ => absurd hj (Nat.not_lt_zero _)) (fun _ => ?_)
        refine run ?_
        exact ⟨[0, 1], [], Gc.of, trivial⟩
      · rw [ownC_pos _ _ hp]
        refine runS ?_
        refine r_any [(3, .ref 0 [] 0 o.length), (10, .ref 1 [] 0 o.length), (11, .v (.int .i64 k)), (12, .ptr 2 [] 0), (13, .ptr 3 [] 0)] [⟨4, true, rowT heldO (o.take k) ++ (.v (.int .i64 x.rel) :: .v (.int .i64 x.size) :: .v (.string x.dig) :: .sl true 0 x.parts.length 1 (rowT strC x.parts) :: rowT heldO (o.drop (k + 1)))⟩, ⟨4, true, rowT heldO (o.take k) ++ (.v (.int .i64 x.rel) :: .v (.int .i64 x.size) :: .v (.string x.dig) :: .sl true 0 x.parts.length 1 (rowT strC x.parts) :: rowT heldO (o.drop (k + 1)))⟩, ⟨0, true, [.v (.int .i64 x.size), .v (.string x.dig), .ref 0 [k * 4 + 3] 0 x.parts.length]⟩, ⟨0, true, [.v (.int .i64 x.size), .v (.string x.dig), .ref 1 [k * 4 + 3] 0 x.parts.length]⟩] ?_ ?_
        rotate_left
        · refine a_two 10 ?_ ?_
          · refine any_lin ?_
            refine run ?_
            exact ⟨[0, 1, 2, 3], [], Gc.of⟩
          · refine any_lin ?_
            refine run ?_
            exact ⟨[0, 1, 3, 2], [], Gc.of⟩
        refine run ?_
        refine r_for x.parts.length (fun j => [(3, .ref 0 [] 0 o.length), (10, .ref 1 [] 0 o.length), (11, .v (.int .i64 k)), (12, .ptr 2 [] 0), (13, .ptr 3 [] 0), (14, .v (.int .i64 j))]) (fun _ => [⟨4, true, rowT heldO (o.take k) ++ (.v (.int .i64 x.rel) :: .v (.int .i64 x.size) :: .v (.string x.dig) :: .sl true 0 x.parts.length 1 (rowT strC x.parts) :: rowT heldO (o.drop (k + 1)))⟩, ⟨4, true, rowT heldO (o.take k) ++ (.v (.int .i64 x.rel) :: .v (.int .i64 x.size) :: .v (.string x.dig) :: .sl true 0 x.parts.length 1 (rowT strC x.parts) :: rowT heldO (o.drop (k + 1)))⟩, ⟨0, true, [.v (.int .i64 x.size), .v (.string x.dig), .ref 0 [k * 4 + 3] 0 x.parts.length]⟩, ⟨0, true, [.v (.int .i64 x.size), .v (.string x.dig), .ref 1 [k * 4 + 3] 0 x.parts.length]⟩]) (fun _ => True) [0, 1, 2, 3] [] trivial Gc.of (fun j hj _ => ?_) (fun _ => ?_)
        · refine run ?_
          exact ⟨[0, 1, 2, 3], [], Gc.of, trivial⟩
        · refine run ?_
          exact ⟨[0, 1], [], Gc.of, trivial⟩
    · refine run ?_
      exact r_end [] []
instance (l : List Int) : Con Try.prog F.laws_FnPieces [.sl false 0 l.length 1 (rowT u8C l)] ((∀ x ∈ l, 0 ≤ x ∧ x < 256) ∧ l.length ≤ 140737488351232) (.v (.bool true)) [] := ⟨fun h => laws_FnPieces l h⟩

end Go.TL
