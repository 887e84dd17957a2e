/- The law of a part that is put, on trees. No conditions but those that are written. -/
import Derived.Test.YthkahdjgkcccgaaL23
namespace Go.TL
set_option linter.unusedSimpArgs false
open Go.Proofs Go.RowKit
attribute [local irreducible] wpOpsT wpT EndT Ex.seq Ex.block W

set_option maxHeartbeats 4000000 in
theorem laws_big (k : Nat) (l : List Int) : CallsT Try.prog [] F.laws_big [.sl false k l.length 1 (rowT u8C l)] (.v (.bool (decide (1048576 < (l.length : Int))))) [] := by
  refine fnT C.laws_big ?_
  refine run ?_
  exact r_end [] []
instance (k : Nat) (l : List Int) : Con Try.prog F.laws_big [.sl false k l.length 1 (rowT u8C l)] True (.v (.bool (decide (1048576 < (l.length : Int))))) [] := ⟨fun _ => laws_big k l⟩

theorem eqT {a b : Int} (h : a = b) : (a = b) = True := eq_true h
theorem eqF {a b : Int} (h : ¬ a = b) : (a = b) = False := eq_false h
theorem row_str : ∀ l : List ByteArray, rowT strC l = l.map fun s => .v (.string s)
  | [] => rfl
  | s :: l => by rw [rowT_cons, row_str l]; rfl
theorem at_str {l : List ByteArray} {j : Nat} (hj : j < l.length) : (rowT strC l)[j]? = some (.v (.string (nth l (j : Nat)))) := by
  rw [row_str, List.getElem?_map, List.getElem?_eq_getElem hj, nth_nat hj]; rfl
attribute [local go_sem] eqT eqF at_str

set_option linter.unusedSimpArgs false in
set_option maxHeartbeats 16000000 in
set_option maxHeartbeats 4000000 in
theorem laws_FnHeldPut (l : List Int) (hpre : (∀ x ∈ l, 0 ≤ x ∧ x < 256) ∧ l.length ≤ 140737488351232) : CallsT Try.prog [] F.laws_FnHeldPut [.sl false 0 l.length 1 (rowT u8C l)] (.v (.bool true)) [] := by
  refine fnT C.laws_FnHeldPut ?_
  have hl := hpre
  refine run ?_
  refine r_ifd (fun h => ?_) (fun h => ?_)
  · refine run ?_
    exact r_end [] []
  obtain ⟨o, r, i, s, ho, hs, hd⟩ := drawPut_ex l hl
  obtain ⟨hbo, hto⟩ := capJ_tot ho
  by_cases hok : heldsP o
  · have him := impl_HeldPutO o r i s hbo hto hok
    have hsp := spec_HeldPutO o r i s hbo hto hok
    have c1 := spec_HeldsOk 1 o hbo
    rw [decide_eq_true hok] at c1
    have hcq := capJ_put (r := r) (i := i) ho hs
    obtain ⟨hql, hqk, hq⟩ := putH_law (r := r) (i := i) (s := s) hok
    generalize putH o r i s = q at *
    obtain ⟨hbq, htq⟩ := capJ_tot hcq
    have c2 := impl_HeldsOk 1 q.1 hbq
    rw [decide_eq_true hqk] at c2
    have hol := ho.1
    refine runC ?_
    refine r_callp false hd ?_
    refine runC ?_
    refine r_callp true him ?_
    refine runC ?_
    refine r_callp true hsp ?_
    refine runC ?_
    refine r_callp true c1 ?_
    refine runC ?_
    refine r_callp true c2 ?_
    refine run ?_
    refine r_for o.length (fun k => [(3, .ref 0 [] 0 o.length), (4, .v (.int .i64 r)), (5, .v (.int .i64 i)), (6, .v (.string s)), (7, .ref 1 [] 0 q.1.length), (8, .v (.int .i64 q.2)), (11, .v (.int .i64 k))]) (fun _ => [⟨4, true, rowT heldO o⟩, ⟨4, true, rowT heldO q.1⟩]) (fun _ => True) [0, 1] [] trivial Gc.of (fun k hk _ => ?_) (fun _ => ?_)
    · obtain ⟨h1, h2, h3, h4⟩ := hq k hk
      have hx := ho.2 _ (nth_mem hk)
      have hy := hcq.2 _ (nth_mem (l := q.1) (i := k) (by omega))
      rw [row_split (enc := heldO) o k hk, row_split (enc := heldO) q.1 k (by omega)]
      have ht1 : (o.take k).length = k := by rw [List.length_take]; omega
      have ht2 : (q.1.take k).length = k := by rw [List.length_take]; omega
      generalize nth o (k : Nat) = x at *
      generalize nth q.1 (k : Nat) = y at *
      obtain ⟨yr, ys, yd, yp⟩ := y
      dsimp only at h1 h2 h3 h4 hy
      subst h1 h2
      obtain ⟨_, hxl, hxs⟩ := hx
      obtain ⟨_, hyl, hys⟩ := hy
      dsimp only [heldO, List.cons_append, List.nil_append]
      by_cases hp : x.parts.length = 0
      · have hpn := List.eq_nil_of_length_eq_zero hp
        have hyn := List.eq_nil_of_length_eq_zero (h3.trans hp)
        rw [hpn, hyn, show ownC ([] : List ByteArray).length 1 (rowT strC []) = .sl false 0 0 1 [] from ownC_nil _ _]
        refine runS ?_
        refine r_any [(3, .ref 0 [] 0 o.length), (4, .v (.int .i64 r)), (5, .v (.int .i64 i)), (6, .v (.string s)), (7, .ref 1 [] 0 q.1.length), (8, .v (.int .i64 q.2)), (11, .v (.int .i64 k)), (12, .ptr 2 [] 0), (13, .ptr 3 [] 0)] [⟨4, true, rowT heldO (o.take k) ++ (.v (.int .i64 x.rel) :: .v (.int .i64 x.size) :: .v (.string x.dig) :: .sl false 0 0 1 [] :: rowT heldO (o.drop (k + 1)))⟩, ⟨4, true, rowT heldO (q.1.take k) ++ (.v (.int .i64 x.rel) :: .v (.int .i64 ys) :: .v (.string x.dig) :: .sl false 0 0 1 [] :: rowT heldO (q.1.drop (k + 1)))⟩, ⟨0, true, [.v (.int .i64 x.size), .v (.string x.dig), .sl false 0 0 1 []]⟩, ⟨0, true, [.v (.int .i64 ys), .v (.string x.dig), .sl false 0 0 1 []]⟩] ?_ ?_
        rotate_left
        · refine a_two 10 ?_ ?_
          · refine any_lin ?_
            refine run ?_
            exact ⟨[0, 1, 2, 3], [], Gc.of⟩
          · refine any_lin ?_
            refine run ?_
            exact ⟨[0, 1, 3, 2], [], Gc.of⟩
        refine run ?_
        refine r_for 0 (fun j => [(3, .ref 0 [] 0 o.length), (4, .v (.int .i64 r)), (5, .v (.int .i64 i)), (6, .v (.string s)), (7, .ref 1 [] 0 q.1.length), (8, .v (.int .i64 q.2)), (11, .v (.int .i64 k)), (12, .ptr 2 [] 0), (13, .ptr 3 [] 0), (14, .v (.int .i64 j))]) (fun _ => [⟨4, true, rowT heldO (o.take k) ++ (.v (.int .i64 x.rel) :: .v (.int .i64 x.size) :: .v (.string x.dig) :: .sl false 0 0 1 [] :: rowT heldO (o.drop (k + 1)))⟩, ⟨4, true, rowT heldO (q.1.take k) ++ (.v (.int .i64 x.rel) :: .v (.int .i64 ys) :: .v (.string x.dig) :: .sl false 0 0 1 [] :: rowT heldO (q.1.drop (k + 1)))⟩, ⟨0, true, [.v (.int .i64 x.size), .v (.string x.dig), .sl false 0 0 1 []]⟩, ⟨0, true, [.v (.int .i64 ys), .v (.string x.dig), .sl false 0 0 1 []]⟩]) (fun _ => True) [0, 1, 2, 3] [] trivial Gc.of (fun j hj _ => absurd hj (Nat.not_lt_zero _)) (fun _ => ?_)
        refine run ?_
        exact ⟨[0, 1], [], Gc.of, trivial⟩
      · rw [ownC_pos _ _ hp, ownC_pos _ _ (by omega)]
        refine runS ?_
        refine r_any [(3, .ref 0 [] 0 o.length), (4, .v (.int .i64 r)), (5, .v (.int .i64 i)), (6, .v (.string s)), (7, .ref 1 [] 0 q.1.length), (8, .v (.int .i64 q.2)), (11, .v (.int .i64 k)), (12, .ptr 2 [] 0), (13, .ptr 3 [] 0)] [⟨4, true, rowT heldO (o.take k) ++ (.v (.int .i64 x.rel) :: .v (.int .i64 x.size) :: .v (.string x.dig) :: .sl true 0 x.parts.length 1 (rowT strC x.parts) :: rowT heldO (o.drop (k + 1)))⟩, ⟨4, true, rowT heldO (q.1.take k) ++ (.v (.int .i64 x.rel) :: .v (.int .i64 ys) :: .v (.string x.dig) :: .sl true 0 yp.length 1 (rowT strC yp) :: rowT heldO (q.1.drop (k + 1)))⟩, ⟨0, true, [.v (.int .i64 x.size), .v (.string x.dig), .ref 0 [k * 4 + 3] 0 x.parts.length]⟩, ⟨0, true, [.v (.int .i64 ys), .v (.string x.dig), .ref 1 [k * 4 + 3] 0 yp.length]⟩] ?_ ?_
        rotate_left
        · refine a_two 10 ?_ ?_
          · refine any_lin ?_
            refine run ?_
            exact ⟨[0, 1, 2, 3], [], Gc.of⟩
          · refine any_lin ?_
            refine run ?_
            exact ⟨[0, 1, 3, 2], [], Gc.of⟩
        refine run ?_
        refine r_for x.parts.length (fun j => [(3, .ref 0 [] 0 o.length), (4, .v (.int .i64 r)), (5, .v (.int .i64 i)), (6, .v (.string s)), (7, .ref 1 [] 0 q.1.length), (8, .v (.int .i64 q.2)), (11, .v (.int .i64 k)), (12, .ptr 2 [] 0), (13, .ptr 3 [] 0), (14, .v (.int .i64 j))]) (fun _ => [⟨4, true, rowT heldO (o.take k) ++ (.v (.int .i64 x.rel) :: .v (.int .i64 x.size) :: .v (.string x.dig) :: .sl true 0 x.parts.length 1 (rowT strC x.parts) :: rowT heldO (o.drop (k + 1)))⟩, ⟨4, true, rowT heldO (q.1.take k) ++ (.v (.int .i64 x.rel) :: .v (.int .i64 ys) :: .v (.string x.dig) :: .sl true 0 yp.length 1 (rowT strC yp) :: rowT heldO (q.1.drop (k + 1)))⟩, ⟨0, true, [.v (.int .i64 x.size), .v (.string x.dig), .ref 0 [k * 4 + 3] 0 x.parts.length]⟩, ⟨0, true, [.v (.int .i64 ys), .v (.string x.dig), .ref 1 [k * 4 + 3] 0 yp.length]⟩]) (fun _ => True) [0, 1, 2, 3] [] trivial Gc.of (fun j hj _ => ?_) (fun _ => ?_)
        · have hj4 := h4 j hj
          by_cases a : q.2 = 0
          · by_cases b : x.rel = r
            · by_cases c : (j : Int) = i
              · have e := hj4.1 ⟨⟨a, b⟩, c⟩
                refine run ?_
                refine r_ifd (fun h5 => ?_) (fun h5 => ?_)
                · exact absurd e h5
                refine run ?_
                exact ⟨[0, 1, 2, 3], [], Gc.of, trivial⟩
              · have e := hj4.2 (fun hh => c hh.2)
                refine runS ?_
                refine r_draw ?_
                iterate 13 refine r_do ?_
                rw [e]
                refine run ?_
                exact ⟨[0, 1, 2, 3], [], Gc.of, trivial⟩
            · have e := hj4.2 (fun hh => b hh.1.2)
              refine runS ?_
              refine r_draw ?_
              iterate 13 refine r_do ?_
              rw [e]
              refine run ?_
              exact ⟨[0, 1, 2, 3], [], Gc.of, trivial⟩
          · have e := hj4.2 (fun hh => a hh.1.1)
            refine runS ?_
            refine r_draw ?_
            iterate 13 refine r_do ?_
            rw [e]
            refine run ?_
            exact ⟨[0, 1, 2, 3], [], Gc.of, trivial⟩
        · refine run ?_
          exact ⟨[0, 1], [], Gc.of, trivial⟩
    · refine run ?_
      exact r_end [] []
  · have him := impl_HeldPutB 1 o r i s hbo hok
    have hsp := spec_HeldPutB 1 o r i s hbo hok
    have c1 := spec_HeldsOk 1 o hbo
    rw [decide_eq_false hok] at c1
    refine runC ?_
    refine r_callp false hd ?_
    refine runC ?_
    refine r_callp true him ?_
    refine runC ?_
    refine r_callp true hsp ?_
    refine runC ?_
    refine r_callp true c1 ?_
    refine run ?_
    exact r_end [] []
instance (l : List Int) : Con Try.prog F.laws_FnHeldPut [.sl false 0 l.length 1 (rowT u8C l)] ((∀ x ∈ l, 0 ≤ x ∧ x < 256) ∧ l.length ≤ 140737488351232) (.v (.bool true)) [] := ⟨fun h => laws_FnHeldPut l h⟩

end Go.TL
