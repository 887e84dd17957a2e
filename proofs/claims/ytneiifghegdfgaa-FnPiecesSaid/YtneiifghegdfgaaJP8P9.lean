/- Texts joined. No conditions but those that are written. -/
import Derived.Test.YtneiifghegdfgaaJP6P7
/- One held is put into a list of one's own, its parts a row of their own. No conditions but those that are written. -/
namespace Go.TL
set_option linter.unusedSimpArgs false
open Go.Proofs Go.RowKit
attribute [local irreducible] wpOpsT wpT EndT Ex.seq Ex.block W

theorem CallsT.nest {P : Program} {S S1 : Store} {g : FuncId} {args : List T} {res : T} (b : Bool) (r : Nat) (p : List Nat) (j q : Nat) (h : CallsT P (nestS b r p j q S) g (reTs (nestF r p j q S.length) args) res S1) : CallsT P S g args res S1 := by
  refine ⟨h.fn, fun E w0 vals hS hI hsz ht => ?_⟩
  subst hS
  obtain ⟨E2, k1, k2, k3, k4, k5⟩ := nest_env hI (Evo.refl E) b r p j q
  rw [← k1]
  refine (h.run E2 w0 vals k2 k3 (by rw [hsz, reTs_length]) (fun i t hi => ?_)).mono fun e w' ⟨v, E', e1, e2, e3, e4, e5, e6⟩ => ⟨v, E', e1, e2, e3, e4, k4.trans e5, e6⟩
  rw [reTs_map, List.getElem?_map] at hi
  obtain ⟨t0, h0, rfl⟩ := Option.map_eq_some_iff.1 hi
  exact k5 _ _ (ht i t0 h0)

set_option maxHeartbeats 4000000 in
theorem insertHR (l : List HeldV) (y : HeldV) (i : Nat) (hi : i ≤ l.length) (hl : l.length ≤ 1000000) : CallsT Try.prog [⟨4, true, rowT heldO l⟩, ⟨4, true, [.v (.int .i64 y.rel), .v (.int .i64 y.size), .v (.string y.dig), .ref 2 [] 0 y.parts.length]⟩, ⟨1, true, rowT strC y.parts⟩] F.slices_Insert_Held [.ref 0 [] 0 l.length, .v (.int .i64 ((i : Nat))), .ref 1 [] 0 1] (.ref 4 [] 0 (l.length + 1)) [⟨4, false, []⟩, ⟨4, false, [.v (.int .i64 y.rel), .v (.int .i64 y.size), .v (.string y.dig), .ref 3 [3] 0 y.parts.length]⟩, ⟨1, false, rowT strC y.parts⟩, ⟨4, false, []⟩, ⟨4, true, rowT heldO (l.take i ++ y :: l.drop i)⟩] := by
  refine CallsT.nest false 1 [] 3 2 ?_
  have hn : nestS false 1 [] 3 2 [⟨4, true, rowT heldO l⟩, ⟨4, true, [.v (.int .i64 y.rel), .v (.int .i64 y.size), .v (.string y.dig), .ref 2 [] 0 y.parts.length]⟩, ⟨1, true, rowT strC y.parts⟩] = [⟨4, true, rowT heldO l⟩, ⟨4, false, [.v (.int .i64 y.rel), .v (.int .i64 y.size), .v (.string y.dig), .ref 3 [3] 0 y.parts.length]⟩, ⟨1, false, rowT strC y.parts⟩, ⟨4, true, heldO y⟩] := by
    simp (disch := omega) only [go_sem, ↓reduceIte, Nat.reduceEqDiff, Nat.reduceMul, Nat.reduceAdd, Nat.reduceSub, Nat.reduceLT, Nat.reduceGT, Nat.reduceLeDiff, Nat.reduceBEq, Int.reduceLT, Int.reduceLE, Int.reduceNe, Int.reduceEq, Int.reduceToNat, Int.reduceAdd, Int.reduceSub, Int.reduceMul, Int.reduceNeg, Nat.reducePow, Int.reducePow, Nat.reduceSubDiff, decide_true, decide_false, reduceCtorEq, or_self, or_false, false_or, or_true, true_or, if_false, gt_iff_lt, ge_iff_le, ne_eq, not_true_eq_false, not_false_eq_true, and_self, beq_self_eq_true, Bool.false_eq_true]

  have ha : reTs (nestF 1 [] 3 2 3) [.ref 0 [] 0 l.length, .v (.int .i64 ((i : Nat))), .ref 1 [] 0 1] = [.ref 0 [] 0 l.length, .v (.int .i64 ((i : Nat))), .ref 3 [] 0 1] := rfl
  rw [hn]
  show CallsT Try.prog _ _ (reTs (nestF 1 [] 3 2 3) _) _ _
  rw [ha]
  have hS0 : gcS [0, 3] [⟨4, true, rowT heldO l⟩, ⟨4, false, [.v (.int .i64 y.rel), .v (.int .i64 y.size), .v (.string y.dig), .ref 3 [3] 0 y.parts.length]⟩, ⟨1, false, rowT strC y.parts⟩, ⟨4, true, heldO y⟩] = [⟨4, true, rowT heldO l⟩, ⟨4, true, heldO y⟩] := by
    (first | (simp only [go_sem, ↓reduceIte, Nat.reduceEqDiff, Nat.reduceMul, Nat.reduceAdd, Nat.reduceSub, Nat.reduceLT, Nat.reduceGT, Nat.reduceLeDiff, Nat.reduceBEq, Int.reduceLT, Int.reduceLE, Int.reduceNe, Int.reduceEq, Int.reduceToNat, Int.reduceAdd, Int.reduceSub, Int.reduceMul, Int.reduceNeg, Nat.reducePow, Int.reducePow, Nat.reduceSubDiff, decide_true, decide_false, reduceCtorEq, or_self, or_false, false_or, or_true, true_or, if_false, gt_iff_lt, ge_iff_le, ne_eq, not_true_eq_false, not_false_eq_true, and_self, beq_self_eq_true, Bool.false_eq_true] <;> with_reducible rfl) | with_reducible rfl)
  have h := (insertH l y i hi hl).frame (rt := false) (args := [.ref 0 [] 0 l.length, .v (.int .i64 ((i : Nat))), .ref 3 [] 0 1]) 1 (by decide) (S := [⟨4, true, rowT heldO l⟩, ⟨4, false, [.v (.int .i64 y.rel), .v (.int .i64 y.size), .v (.string y.dig), .ref 3 [3] 0 y.parts.length]⟩, ⟨1, false, rowT strC y.parts⟩, ⟨4, true, heldO y⟩]) (ρ := [0, 3])
    ⟨rfl, by decide, fun r hr => by show r < 4; simp at hr; omega, hS0.symm⟩ (.same _) (by rfl) (by rfl) (fun x hx hlv => by
      simp only [List.mem_cons, List.not_mem_nil, or_false] at hx
      rcases hx with rfl | rfl | rfl
      · cases hlv
      · cases hlv
      · have hf : freeS 1 [(⟨4, true, rowT heldO (l.take i ++ y :: l.drop i)⟩ : Root)] = true := by (first | (simp only [go_sem, ↓reduceIte, Nat.reduceEqDiff, Nat.reduceMul, Nat.reduceAdd, Nat.reduceSub, Nat.reduceLT, Nat.reduceGT, Nat.reduceLeDiff, Nat.reduceBEq, Int.reduceLT, Int.reduceLE, Int.reduceNe, Int.reduceEq, Int.reduceToNat, Int.reduceAdd, Int.reduceSub, Int.reduceMul, Int.reduceNeg, Nat.reducePow, Int.reducePow, Nat.reduceSubDiff, decide_true, decide_false, reduceCtorEq, or_self, or_false, false_or, or_true, true_or, if_false, gt_iff_lt, ge_iff_le, ne_eq, not_true_eq_false, not_false_eq_true, and_self, beq_self_eq_true, Bool.false_eq_true] <;> with_reducible rfl) | with_reducible rfl)
        exact List.all_eq_true.1 hf _ (.head _)) (by show 2 ≤ 3; decide)
  have hb : backS [0, 3] [⟨4, true, rowT heldO l⟩, ⟨4, false, [.v (.int .i64 y.rel), .v (.int .i64 y.size), .v (.string y.dig), .ref 3 [3] 0 y.parts.length]⟩, ⟨1, false, rowT strC y.parts⟩, ⟨4, true, heldO y⟩] [⟨4, false, []⟩, ⟨4, false, []⟩, ⟨4, true, rowT heldO (l.take i ++ y :: l.drop i)⟩] = [⟨4, false, []⟩, ⟨4, false, [.v (.int .i64 y.rel), .v (.int .i64 y.size), .v (.string y.dig), .ref 3 [3] 0 y.parts.length]⟩, ⟨1, false, rowT strC y.parts⟩, ⟨4, false, []⟩, ⟨4, true, rowT heldO (l.take i ++ y :: l.drop i)⟩] := by
    (first | (simp only [go_sem, ↓reduceIte, Nat.reduceEqDiff, Nat.reduceMul, Nat.reduceAdd, Nat.reduceSub, Nat.reduceLT, Nat.reduceGT, Nat.reduceLeDiff, Nat.reduceBEq, Int.reduceLT, Int.reduceLE, Int.reduceNe, Int.reduceEq, Int.reduceToNat, Int.reduceAdd, Int.reduceSub, Int.reduceMul, Int.reduceNeg, Nat.reducePow, Int.reducePow, Nat.reduceSubDiff, decide_true, decide_false, reduceCtorEq, or_self, or_false, false_or, or_true, true_or, if_false, gt_iff_lt, ge_iff_le, ne_eq, not_true_eq_false, not_false_eq_true, and_self, beq_self_eq_true, Bool.false_eq_true] <;> with_reducible rfl) | with_reducible rfl)
  rw [hb] at h
  exact h

end Go.TL

/- A new release in a list of helds, by the program. No conditions but those that are written. -/
namespace Go.TL
set_option linter.unusedSimpArgs false
open Go.Proofs Go.RowKit
attribute [local irreducible] wpOpsT wpT EndT Ex.seq Ex.block W

/-- How many stand ahead of a release. -/
def atN (r : Int) (l : List HeldV) : Nat := l.findIdx fun x => !decide (x.rel < r)
theorem atN_le (r : Int) (l : List HeldV) : atN r l ≤ l.length := List.findIdx_le_length
theorem atN_lt {r : Int} {l : List HeldV} {j : Nat} (h : j < atN r l) : j < l.length ∧ (nth l (j : Nat)).rel < r := by
  have h1 := atN_le r l
  have h2 := List.not_of_lt_findIdx (xs := l) (p := fun x : HeldV => !decide (x.rel < r)) (i := j) h
  rw [← nth_nat (by omega)] at h2
  exact ⟨by omega, by simpa using h2⟩
theorem atN_stop {r : Int} {l : List HeldV} (h : atN r l < l.length) : ¬ (nth l (atN r l : Nat)).rel < r := by
  have h2 : (!decide (l[atN r l].rel < r)) = true := List.findIdx_getElem (w := h)
  rw [nth_nat h]
  simpa using h2
/-- The list with a new held in its place. -/
def putL (y : HeldV) (l : List HeldV) : List HeldV := (l.filter (keepH y.rel)).take (atN y.rel (l.filter (keepH y.rel))) ++ y :: (l.filter (keepH y.rel)).drop (atN y.rel (l.filter (keepH y.rel)))
theorem putL_length (y : HeldV) (l : List HeldV) : (putL y l).length = (l.filter (keepH y.rel)).length + 1 := by
  have := atN_le y.rel (l.filter (keepH y.rel))
  unfold putL
  rw [List.length_append, List.length_cons, List.length_take, List.length_drop]
  omega
theorem putL_mem {y z : HeldV} {l : List HeldV} (h : z ∈ putL y l) : z = y ∨ z ∈ l := by
  unfold putL at h
  rcases List.mem_append.1 h with h | h
  · exact .inr (List.mem_filter.1 (List.mem_of_mem_take h)).1
  rcases List.mem_cons.1 h with h | h
  · exact .inl h
  · exact .inr (List.mem_filter.1 (List.mem_of_mem_drop h)).1

theorem get_h0 {l : List HeldV} {j : Nat} (h : j < l.length) : (rowT heldO l)[j * 4]? = some (.v (.int .i64 ((nth l (j : Nat)).rel))) := by
  have := row4_at (l := l) (i := j) (t := 0) h (by decide)
  rw [Nat.add_zero, Nat.mul_comm] at this
  exact this
theorem get_h00 {l : List HeldV} {j : Nat} (h : j < l.length) : (rowT heldO l)[j * 4 + 0]? = some (.v (.int .i64 ((nth l (j : Nat)).rel))) := get_h0 h
attribute [local go_sem] get_h0 get_h00

/-- A new parcel of one's own. -/
theorem impl_ParcelNewO (sz : Int) (d : ByteArray) (h : newOk sz d) : CallsT Try.prog [] F.impl_ParcelNew [.v (.int .i64 sz), .v (.string d)] (.tup [.agg [.v (.int .i64 ((newP sz d).size)), .v (.string ((newP sz d).dig)), .ref 0 [] 0 (newP sz d).parts.length], .v (.bool true)]) [⟨1, true, rowT strC (newP sz d).parts⟩] := by
  have hb := partsN_b sz
  have hp : 0 ≤ partsN sz := by have := h.1; unfold partsN; rw [if_pos h.1]; omega
  have hk := (new_parcel sz d).2 h
  rw [show newP sz d = ⟨sz, d, List.replicate (max (partsN sz) 0).toNat ⟨#[]⟩⟩ by rw [show max (partsN sz) 0 = partsN sz by omega]; exact if_pos h]
  refine fnT C.impl_ParcelNew ?_
  refine run ?_
  refine r_ifd (fun hh => absurd hk hh) (fun _ => ?_)
  refine run ?_
  exact r_end [1] []

set_option linter.unusedSimpArgs false in
set_option maxHeartbeats 8000000 in
theorem impl_HeldNewO (l : List HeldV) (r sz : Int) (d : ByteArray) (hb : bndHS l) (hpre : totHS l ≤ 1048576) (hok : heldsP l) (hnew : newOk sz d) (hb2 : bndHS (putL (newV r sz d) l)) : CallsT Try.prog [] F.impl_HeldNew [.sl false 1 l.length 4 (rowT heldC l), .v (.int .i64 r), .v (.int .i64 sz), .v (.string d)] (.tup [.ref 0 [] 0 (if heldsP (putL (newV r sz d) l) then putL (newV r sz d) l else l).length, .v (.bool (decide (heldsP (putL (newV r sz d) l))))]) [⟨4, true, rowT heldO (if heldsP (putL (newV r sz d) l) then putL (newV r sz d) l else l)⟩] := by
  have hll := helds_len hpre
  have h8 := hok.1
  have c1 := impl_HeldsOk 1 l hb
  rw [decide_eq_true hok] at c1
  have hdel := deleteH l r (by omega)
  have hfl : (l.filter (keepH r)).length ≤ l.length := List.length_filter_le _ _
  have hyr : (newV r sz d).rel = r := rfl
  have hpl := putL_length (newV r sz d) l
  have hpt : putL (newV r sz d) l = (l.filter (keepH r)).take (atN r (l.filter (keepH r))) ++ newV r sz d :: (l.filter (keepH r)).drop (atN r (l.filter (keepH r))) := rfl
  have hins := insertHR (l.filter (keepH r)) (newV r sz d) (atN r (l.filter (keepH r))) (atN_le _ _) (by omega)
  rw [← hpt] at hins
  rw [hyr] at hpl
  have hst := @atN_lt r (l.filter (keepH r))
  have hsp := @atN_stop r (l.filter (keepH r))
  have hle := atN_le r (l.filter (keepH r))
  generalize hO : l.filter (keepH r) = o at *
  generalize putL (newV r sz d) l = pl at *
  dsimp only [newV] at hins
  refine fnT C.impl_HeldNew ?_
  refine runC ?_
  refine r_callp true c1 ?_
  refine runC ?_
  refine r_callp true (impl_ParcelNewO sz d hnew) ?_
  refine runC ?_
  refine r_callp true (impl_copyHeldsO l hpre) ?_
  refine runC ?_
  refine r_calln [3] hdel ?_ (ha := by rfl)
  refine runC ?_
  refine r_for (atN r o) (fun i => [(0, .sl false 1 l.length 4 (rowT heldC l)), (5, .ptr 0 [] 0), (10, .ptr 2 [] 0), (11, .v (.bool true)), (12, .ref 3 [] 0 o.length), (13, .v (.int .i64 i))]) (fun _ => [⟨0, true, [.v (.int .i64 r)]⟩, ⟨1, true, rowT strC (newP sz d).parts⟩, ⟨0, true, [.v (.int .i64 ((newP sz d).size)), .v (.string ((newP sz d).dig)), .ref 1 [] 0 (newP sz d).parts.length]⟩, ⟨4, true, rowT heldO o⟩]) (fun _ => True) [0, 1, 2, 4] [] trivial Gc.of (fun i hi _ => ?_) (fun _ => ?_)
  · obtain ⟨k1, k2⟩ := hst hi
    refine run ?_
    exact ⟨[0, 1, 2, 3], [], Gc.of, trivial⟩
  · have hnx : ¬ (((atN r o : Nat) : Int) < (o.length : Int) ∧ (nth o (atN r o : Nat)).rel < r) := fun h => hsp (by omega) h.2
    refine runC ?_
    refine r_calln [3, 4, 1] hins ?_
    refine runC ?_
    rw [← hpl]
    refine r_callp true (impl_HeldsOk 1 pl hb2) ?_
    refine run ?_
    refine r_ifd (fun hc => ?_) (fun hc => ?_)
    · rw [if_neg hc, decide_eq_false hc]
      refine runC ?_
      refine r_callp true (impl_copyHeldsO l hpre) ?_
      refine run ?_
      exact r_end [7] []
    · have hc := Decidable.not_not.1 hc
      rw [if_pos hc, decide_eq_true hc]
      refine run ?_
      exact r_end [6] []

set_option linter.unusedSimpArgs false in
theorem impl_HeldNewB (l : List HeldV) (r sz : Int) (d : ByteArray) (hb : bndHS l) (hok : ¬ heldsP l) : CallsT Try.prog [] F.impl_HeldNew [.sl false 1 l.length 4 (rowT heldC l), .v (.int .i64 r), .v (.int .i64 sz), .v (.string d)] (.tup [.sl false 0 0 4 [], .v (.bool false)]) [] := by
  have c1 := impl_HeldsOk 1 l hb
  rw [decide_eq_false hok] at c1
  refine fnT C.impl_HeldNew ?_
  refine runC ?_
  refine r_callp true c1 ?_
  refine run ?_
  exact r_end [] []

set_option linter.unusedSimpArgs false in
set_option maxHeartbeats 8000000 in
theorem impl_HeldNewN (l : List HeldV) (r sz : Int) (d : ByteArray) (hb : bndHS l) (hpre : totHS l ≤ 1048576) (hok : heldsP l) (hnew : ¬ newOk sz d) : CallsT Try.prog [] F.impl_HeldNew [.sl false 1 l.length 4 (rowT heldC l), .v (.int .i64 r), .v (.int .i64 sz), .v (.string d)] (.tup [.ref 0 [] 0 l.length, .v (.bool false)]) [⟨4, true, rowT heldO l⟩] := by
  have hll := helds_len hpre
  have h8 := hok.1
  have c1 := impl_HeldsOk 1 l hb
  rw [decide_eq_true hok] at c1
  have hdel := deleteH l r (by omega)
  have hfl : (l.filter (keepH r)).length ≤ l.length := List.length_filter_le _ _
  have hins := insertH (l.filter (keepH r)) ⟨r, 0, ⟨#[]⟩, []⟩ (atN r (l.filter (keepH r))) (atN_le _ _) (by omega)
  rw [show heldO ⟨r, 0, ⟨#[]⟩, []⟩ = [.v (.int .i64 r), .v (.int .i64 0), .v (.string (⟨#[]⟩)), .sl false 0 0 1 []] from rfl] at hins
  have hpn := impl_ParcelNew sz d
  rw [show newP sz d = ⟨0, ⟨#[]⟩, []⟩ from if_neg hnew, decide_eq_false hnew] at hpn
  have hst := @atN_lt r (l.filter (keepH r))
  have hsp := @atN_stop r (l.filter (keepH r))
  have hle := atN_le r (l.filter (keepH r))
  generalize hO : l.filter (keepH r) = o at *
  generalize o.take (atN r o) ++ (⟨r, 0, ⟨#[]⟩, []⟩ : HeldV) :: o.drop (atN r o) = pl at *
  refine fnT C.impl_HeldNew ?_
  refine runC ?_
  refine r_callp true c1 ?_
  refine runC ?_
  refine r_callp true hpn ?_
  refine runC ?_
  refine r_callp true (impl_copyHeldsO l hpre) ?_
  refine runC ?_
  refine r_calln [2] hdel ?_ (ha := by rfl)
  refine runC ?_
  refine r_for (atN r o) (fun i => [(0, .sl false 1 l.length 4 (rowT heldC l)), (5, .ptr 0 [] 0), (10, .ptr 1 [] 0), (11, .v (.bool false)), (12, .ref 2 [] 0 o.length), (13, .v (.int .i64 i))]) (fun _ => [⟨0, true, [.v (.int .i64 r)]⟩, ⟨0, true, [.v (.int .i64 0), .v (.string (⟨#[]⟩)), .sl false 0 0 1 []]⟩, ⟨4, true, rowT heldO o⟩]) (fun _ => True) [0, 1, 3] [] trivial Gc.of (fun i hi _ => ?_) (fun _ => ?_)
  · obtain ⟨k1, k2⟩ := hst hi
    refine run ?_
    exact ⟨[0, 1, 2], [], Gc.of, trivial⟩
  · have hnx : ¬ (((atN r o : Nat) : Int) < (o.length : Int) ∧ (nth o (atN r o : Nat)).rel < r) := fun h => hsp (by omega) h.2
    refine runC ?_
    refine r_calln [2, 3] hins ?_
    refine runC ?_
    refine r_callp true (impl_copyHeldsO l hpre) ?_
    refine run ?_
    exact r_end [5] []

end Go.TL
