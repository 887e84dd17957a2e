/- Texts joined. No conditions but those that are written. -/
import Derived.Test.YthkahdjgkcccgaaF10
import Derived.Test.YthkahdjgkcccgaaK1
import Derived.Test.YthkahdjgkcccgaaTAny
/- Rolls: copies that are one's own, by the reference. No conditions but those that are written. -/
namespace Go.TL
set_option linter.unusedSimpArgs false
open Go.Proofs Go.RowKit
attribute [local irreducible] wpOpsT wpT EndT Ex.seq Ex.block W

/-- A row that is nil just where it is empty. -/
def nilR {α : Type} (r : Nat) (l : List α) : T := match l with | [] => .v (.slice none 0 0) | _ :: _ => .ref r [] 0 l.length
@[go_sem] theorem nilR_nil {α : Type} (r : Nat) : nilR r ([] : List α) = .v (.slice none 0 0) := rfl
@[go_sem] theorem nilR_cons {α : Type} (r : Nat) (x : α) (l : List α) : nilR r (x :: l) = .ref r [] 0 (x :: l).length := rfl
theorem nilR_ne {α : Type} (r : Nat) {l : List α} (h : l ≠ []) : nilR r l = .ref r [] 0 l.length := by cases l with | nil => exact absurd rfl h | cons => rfl
@[go_sem] theorem ren_nilR {α : Type} (g : Nat → Nat) (r : Nat) (l : List α) : ren g (nilR r l) = nilR (g r) l := by cases l <;> simp [nilR, ren]
@[go_sem] theorem free_nilR {α : Type} (L r : Nat) (l : List α) : allT (leafFree (L + 1)) (nilR r l) = true := by cases l <;> simp [nilR, allT, leafFree]
@[go_sem] theorem free_nilR1 {α : Type} (r : Nat) (l : List α) : allT (leafFree 1) (nilR r l) = true := by cases l <;> simp [nilR, allT, leafFree]

section
variable {α : Type} (r : Nat) (l : List α)
def gcN : Option Nat → T
  | some i => nilR i l
  | none => match l with | [] => .v (.slice none 0 0) | _ :: _ => .dead
@[go_sem high] theorem gc_nilR (keep : List Nat) : gcT keep (nilR r l) = gcN l (keep.idxOf? r) := by
  cases l with
  | nil => cases keep.idxOf? r <;> simp [nilR, gcT, gcN]
  | cons => simp only [nilR, gcT, gcN]; cases keep.idxOf? r <;> rfl
@[go_sem] theorem gcN_some (i : Nat) : gcN l (some i) = nilR i l := rfl
def reN : Option (Nat × List Nat) → T
  | some (i, []) => nilR i l
  | some (i, p) => match l with | [] => .v (.slice none 0 0) | _ :: _ => .ref i p 0 l.length
  | none => match l with | [] => .v (.slice none 0 0) | _ :: _ => .dead
@[go_sem high] theorem re_nilR (f : NMap) : reT f (nilR r l) = reN l (f r []) := by
  cases l with
  | nil =>
    simp only [nilR, reT]
    cases f r [] with
    | none => rfl
    | some x => obtain ⟨i, p⟩ := x; cases p <;> rfl
  | cons a l =>
    simp only [nilR, reT]
    cases f r [] with
    | none => rfl
    | some x => obtain ⟨i, p⟩ := x; cases p <;> rfl
@[go_sem] theorem reN_some (i : Nat) : reN l (some (i, [])) = nilR i l := rfl
@[go_sem high] theorem fz_nilR {r q : Nat} (x : Root) (h : (r == q) = false) : fzT x q (nilR r l) = nilR r l := by
  have h : r ≠ q := by simpa using h
  cases l with
  | nil => simp [nilR, fzT]
  | cons => simp only [nilR, fzT, if_neg h]
@[go_sem high] theorem seal_nilR {r q : Nat} (x : Root) (h : (r == q) = false) : sealT x q (nilR r l) = nilR r l := by
  have h : r ≠ q := by simpa using h
  cases l with
  | nil => simp [nilR, sealT]
  | cons => simp only [nilR, sealT, if_neg h]
@[go_sem high] theorem loadCell_nilR (q j : Nat) (p : List Nat) : loadCell q p j (nilR r l) = some (nilR r l) := by cases l <;> rfl
@[go_sem high] theorem cellOk_nilR : cellOk (nilR r l) = true := by cases l <;> rfl
@[go_sem high] theorem oneT_nilR : oneT (nilR r l) = true := by cases l <;> rfl
@[go_sem high] theorem comps_nilR : compsT (nilR r l) = [nilR r l] := by cases l <;> rfl
@[go_sem high] theorem live_nilR (S : Store) : liveT S (nilR r l) = thereR l (S.at false r []) := by cases l <;> rfl
theorem Wk.nilR (sz : Nat) : Wk (TL.nilR r l) (rowR sz r l) := by
  cases l with
  | nil => exact .nil _ _
  | cons => exact .refl _
end

theorem Wks.tail (a : List T) {b c : List T} (h : Wks b c) : Wks (a ++ b) (a ++ c) := by
  induction a with
  | nil => exact h
  | cons x a ih => exact .cons (.refl _) ih
theorem ne_app {α : Type} (a : List α) (x : α) : a ++ [x] ≠ [] := by cases a <;> simp
theorem live_app {α : Type} (a : List α) (x : α) : (!(a ++ [x]).isEmpty) = true := by cases a <;> rfl

/-- The roll that is copied, after i releases: its struct, its rows. -/
def copyG (of : Int) (rels : List RelV) (act : Int) (order : List Int) : Nat → Store
  | 0 => [⟨1, true, rowT i64C order⟩, ⟨0, true, [.v (.int .i64 of), .v (.slice none 0 0), .v (.int .i64 act), .ref 2 [] 0 order.length]⟩, ⟨1, false, []⟩]
  | i + 1 => [⟨1, true, rowT i64C order⟩, ⟨0, true, [.v (.int .i64 of), .ref 4 [] 0 (i + 1), .v (.int .i64 act), .ref 2 [] 0 order.length]⟩, ⟨5, true, rowT relO (rels.take (i + 1))⟩]

set_option linter.unusedSimpArgs false in
set_option maxHeartbeats 4000000 in
theorem spec_l7Copy (k0 k1 : Nat) (of : Int) (rels : List RelV) (act : Int) (order : List Int) (hpre : totRoll rels order ≤ 1048576) : CallsT Try.prog [] F.spec_l7Copy [.agg [.v (.int .i64 of), .sl false k0 rels.length 5 (rowT relC rels), .v (.int .i64 act), .sl false k1 order.length 1 (rowT i64C order)]] (.agg [.v (.int .i64 of), nilR 0 rels, .v (.int .i64 act), .ref 1 [] 0 order.length]) [⟨5, !rels.isEmpty, rowT relO rels⟩, ⟨1, true, rowT i64C order⟩] := by
  have hlr := rels_len hpre
  have hlo : order.length ≤ 1048576 := by
    have h3 := sum_nn totRelV_nn rels
    have h6 : totIS order = order.length := rfl
    unfold totRoll totRelS at hpre
    omega
  refine fnT C.spec_l7Copy ?_
  refine runS ?_
  refine r_any [(1, .ptr 0 [] 0), (2, .ptr 1 [] 0), (3, .ptr 3 [] 0)] [⟨0, true, [.v (.int .i64 of), .sl false k0 rels.length 5 (rowT relC rels), .v (.int .i64 act), .sl false k1 order.length 1 (rowT i64C order)]⟩, ⟨0, true, [.v (.int .i64 0), .v (.slice none 0 0), .v (.int .i64 0), .v (.slice none 0 0)]⟩, ⟨1, true, rowT i64C order⟩, ⟨0, true, [.v (.int .i64 of), .v (.slice none 0 0), .v (.int .i64 act), .ref 2 [] 0 order.length]⟩, ⟨1, false, []⟩] ?_ ?_
  rotate_left
  · refine a_swap 8 ?_
    refine a_two 7 ?_ ?_
    · refine any_lin ?_
      refine run ?_
      refine r_app (enc := i64C) [] order (by simp only [List.length_nil]; omega) ?_
      rw [List.nil_append]
      refine run ?_
      exact ⟨[0, 1, 3, 4, 2], [], Gc.of⟩
    · refine a_swap 6 ?_
      refine a_swap 5 ?_
      refine a_two 4 ?_ ?_
      · refine any_lin ?_
        refine run ?_
        refine r_app (enc := i64C) [] order (by simp only [List.length_nil]; omega) ?_
        rw [List.nil_append]
        refine run ?_
        exact ⟨[0, 1, 4, 3, 2], [], Gc.of⟩
      · refine any_lin ?_
        refine run ?_
        refine r_app (enc := i64C) [] order (by simp only [List.length_nil]; omega) ?_
        rw [List.nil_append]
        refine run ?_
        exact ⟨[0, 1, 4, 2, 3], [], Gc.of⟩
  refine run ?_
  refine r_for rels.length (fun i => [(1, .ptr 0 [] 0), (2, .ptr 1 [] 0), (3, .ptr 3 [] 0), (4, .v (.int .i64 i))]) (fun i => [⟨0, true, [.v (.int .i64 of), .sl false k0 rels.length 5 (rowT relC rels), .v (.int .i64 act), .sl false k1 order.length 1 (rowT i64C order)]⟩, ⟨0, true, [.v (.int .i64 0), .v (.slice none 0 0), .v (.int .i64 0), .v (.slice none 0 0)]⟩] ++ copyG of rels act order i) (fun _ => True) [0, 1, 2, 3, 4] [] trivial Gc.of (fun i hi _ => ?_) (fun _ => ?_)
  · have hrl := ready_len hpre (x := (i : Int)) (by omega) (by omega)
    cases i with
    | zero =>
      dsimp only [copyG, List.cons_append, List.nil_append]
      refine run ?_
      refine r_app (enc := i64C) [] (nth rels ((0 : Nat) : Int)).ready (by simp only [List.length_nil]; have := hrl.1; omega) ?_
      rw [List.nil_append]
      refine run ?_
      refine r_apz ?_
      refine run ?_
      refine ⟨[0, 1, 2, 3, 10], [.nest 9 [] 3 7], Gc.of (hs := ?_), trivial⟩
      rw [take_nth hi, rowT_append, rowT_1]
      (simp (disch := omega) only [go_sem, ↓reduceIte, Nat.reduceEqDiff, Nat.reduceMul, Nat.reduceAdd, Nat.reduceSub, Nat.reduceLT, Nat.reduceGT, Nat.reduceLeDiff, Nat.reduceBEq, Int.reduceLT, Int.reduceLE, Int.reduceNe, Int.reduceEq, Int.reduceToNat, Int.reduceAdd, Int.reduceSub, Int.reduceMul, Int.reduceNeg, Nat.reducePow, Int.reducePow, Nat.reduceSubDiff, decide_true, decide_false, reduceCtorEq, or_self, or_false, false_or, or_true, true_or, if_false, gt_iff_lt, ge_iff_le, ne_eq, not_true_eq_false, not_false_eq_true, and_self, beq_self_eq_true, Bool.false_eq_true, List.append_assoc]; exact WkS.refl _)
    | succ i =>
      dsimp only [copyG, List.cons_append, List.nil_append]
      refine run ?_
      refine r_app (enc := i64C) [] (nth rels ((i + 1 : Nat) : Int)).ready (by simp only [List.length_nil]; have := hrl.1; omega) ?_
      rw [List.nil_append]
      refine run ?_
      have ht : (rels.take (i + 1)).length = i + 1 := by rw [List.length_take]; omega
      refine r_apw ?_
      refine run ?_
      refine ⟨[0, 1, 2, 3, 10], [.nest 9 [] ((i + 1) * 5 + 3) 7], Gc.of (hs := ?_), trivial⟩
      rw [take_nth hi, rowT_append, rowT_1]
      (simp (disch := omega) only [go_sem, ↓reduceIte, Nat.reduceEqDiff, Nat.reduceMul, Nat.reduceAdd, Nat.reduceSub, Nat.reduceLT, Nat.reduceGT, Nat.reduceLeDiff, Nat.reduceBEq, Int.reduceLT, Int.reduceLE, Int.reduceNe, Int.reduceEq, Int.reduceToNat, Int.reduceAdd, Int.reduceSub, Int.reduceMul, Int.reduceNeg, Nat.reducePow, Int.reducePow, Nat.reduceSubDiff, decide_true, decide_false, reduceCtorEq, or_self, or_false, false_or, or_true, true_or, if_false, gt_iff_lt, ge_iff_le, ne_eq, not_true_eq_false, not_false_eq_true, and_self, beq_self_eq_true, Bool.false_eq_true, List.append_assoc]; exact WkS.refl _)
  · generalize hm : rels.length = m
    cases m with
    | zero =>
      have hn := List.eq_nil_of_length_eq_zero hm
      subst hn
      dsimp only [copyG, List.cons_append, List.nil_append]
      refine run ?_
      exact r_end [4, 2] []
    | succ m =>
      dsimp only [copyG, List.cons_append, List.nil_append]
      have hne : rels ≠ [] := by intro h; rw [h] at hm; simp at hm
      rw [nilR_ne 0 hne, show (!rels.isEmpty) = true by cases rels with | nil => exact absurd rfl hne | cons => rfl]
      rw [← hm, List.take_length]
      refine run ?_
      exact r_end [4, 2] []

end Go.TL

/- A number put into an ascending row, by the reference. No conditions but those that are written. -/
namespace Go.TL
set_option linter.unusedSimpArgs false
open Go.Proofs Go.RowKit
attribute [local irreducible] wpOpsT wpT EndT Ex.seq Ex.block W

def putS (x : Int) (s : List Int × Bool) (y : Int) : List Int × Bool :=
  let s1 := if s.2 = false ∧ x ≤ y then (s.1 ++ [x], true) else s
  if y = x then s1 else (s1.1 ++ [y], s1.2)
def putSt (l : List Int) (x : Int) : List Int × Bool := l.foldl (putS x) ([], false)
def putI (l : List Int) (x : Int) : List Int := if (putSt l x).2 = true then (putSt l x).1 else (putSt l x).1 ++ [x]
theorem putSt_s {l : List Int} {i : Nat} (x : Int) (hi : i < l.length) : putSt (l.take (i + 1)) x = putS x (putSt (l.take i) x) (nth l (i : Nat)) := by
  rw [take_nth hi, putSt, List.foldl_append]; rfl
theorem putSt_len (x : Int) : ∀ l : List Int, (putSt l x).1.length ≤ 2 * l.length := by
  have key : ∀ (l : List Int) (s : List Int × Bool), (l.foldl (putS x) s).1.length ≤ s.1.length + 2 * l.length := by
    intro l
    induction l with
    | nil => intro s; simp
    | cons y l ih =>
      intro s
      rw [List.foldl_cons]
      have := ih (putS x s y)
      have h2 : (putS x s y).1.length ≤ s.1.length + 2 := by
        unfold putS
        dsimp only
        split <;> split <;> simp
      simp only [List.length_cons]
      omega
  intro l
  have := key l ([], false)
  simpa [putSt] using this

set_option maxHeartbeats 4000000 in
theorem spec_l7Put (k : Nat) (l : List Int) (x : Int) (hl : l.length ≤ 1048576) : CallsT Try.prog [] F.spec_l7Put [.sl false k l.length 1 (rowT i64C l), .v (.int .i64 x)] (.ref 0 [] 0 (putI l x).length) [⟨1, true, rowT i64C (putI l x)⟩] := by
  refine fnT C.spec_l7Put ?_
  refine run ?_
  refine r_for l.length (fun i => [(0, .sl false k l.length 1 (rowT i64C l)), (1, .v (.int .i64 x)), (5, .ref 0 [] 0 (putSt (l.take i) x).1.length), (6, .v (.bool (decide ((putSt (l.take i) x).2 = true)))), (7, .v (.int .i64 i))]) (fun i => [⟨1, true, rowT i64C (putSt (l.take i) x).1⟩]) (fun _ => True) [0] [] trivial (Gc.of (hf := ?_)) (fun i hi _ => ?_) (fun _ => ?_)
  · simp only [List.take_zero, putSt, List.foldl_nil]
    (simp only [go_sem, ↓reduceIte, Nat.reduceEqDiff, Nat.reduceMul, Nat.reduceAdd, Nat.reduceSub, Nat.reduceLT, Nat.reduceGT, Nat.reduceLeDiff, Nat.reduceBEq, Int.reduceLT, Int.reduceLE, Int.reduceNe, Int.reduceEq, Int.reduceToNat, Int.reduceAdd, Int.reduceSub, Int.reduceMul, Int.reduceNeg, Nat.reducePow, Int.reducePow, Nat.reduceSubDiff, decide_true, decide_false, reduceCtorEq, or_self, or_false, false_or, or_true, true_or, if_false, gt_iff_lt, ge_iff_le, ne_eq, not_true_eq_false, not_false_eq_true, and_self, beq_self_eq_true, Bool.false_eq_true]; try (repeat (first | exact True.intro | exact Wk.refl _ | exact Wk.nil _ _ | exact Wk.dead _ | exact Wk.bT (by assumption) | exact Wk.bF (by assumption) | exact Wk.eqI (by omega) | exact WkS.refl _ | exact Wks.same _ | exact Wks.nil | exact WkS.nil | refine And.intro ?_ ?_ | refine Wk.aggs ?_ | refine Wk.tups ?_ | refine Wks.cons ?_ ?_ | refine WkS.cons (by first | exact fun _ => rfl | exact fun h => absurd h Bool.false_ne_true) ?_ ?_ ?_ | assumption | exact (fun h => h) | exact (fun h => absurd h Bool.false_ne_true) | intro _)))
  · have hs := putSt_s x hi
    have hn := putSt_len x (l.take i)
    have hn2 := putSt_len x (l.take (i + 1))
    have ht : (l.take i).length ≤ 1048576 := by rw [List.length_take]; omega
    generalize putSt (l.take i) x = s at *
    obtain ⟨out, put⟩ := s
    dsimp only at *
    refine run ?_
    refine r_ifd (fun h => ?_) (fun h => ?_)
    · have hp : put = false := by simpa using h.1
      have hx : x ≤ nth l (i : Nat) := h.2
      subst hp
      refine run ?_
      refine r_ifd (fun h2 => ?_) (fun h2 => ?_)
      · have e : putS x (out, false) (nth l (i : Nat)) = (out ++ [x] ++ [nth l (i : Nat)], true) := by
          simp [putS, hx, h2]
        rw [hs, e]
        refine run ?_
        exact ⟨[4], [], Gc.of, trivial⟩
      · have h2 := Decidable.not_not.1 h2
        have e : putS x (out, false) (nth l (i : Nat)) = (out ++ [x], true) := by
          have hx' : x ≤ x := Int.le_refl x
          simp [putS, h2, hx']
        rw [hs, e]
        refine run ?_
        exact ⟨[2], [], Gc.of, trivial⟩
    · have hne : ¬ (put = false ∧ x ≤ nth l (i : Nat)) := fun hh => h ⟨by simp [hh.1], hh.2⟩
      refine run ?_
      refine r_ifd (fun h2 => ?_) (fun h2 => ?_)
      · have e : putS x (out, put) (nth l (i : Nat)) = (out ++ [nth l (i : Nat)], put) := by
          simp only [putS, if_neg hne, if_neg h2]
        rw [hs, e]
        refine run ?_
        exact ⟨[2], [], Gc.of, trivial⟩
      · have h2 := Decidable.not_not.1 h2
        have e : putS x (out, put) (nth l (i : Nat)) = (out, put) := by
          simp only [putS, if_neg hne, if_pos h2]
        rw [hs, e]
        refine run ?_
        exact ⟨[0], [], Gc.of, trivial⟩
  · rw [List.take_length]
    have hn := putSt_len x l
    refine run ?_
    refine r_ifd (fun h => ?_) (fun h => ?_)
    · have e : putI l x = (putSt l x).1 ++ [x] := if_neg h
      rw [e]
      refine run ?_
      exact r_end [2] []
    · have e : putI l x = (putSt l x).1 := if_pos (Decidable.not_not.1 h)
      rw [e]
      refine run ?_
      exact r_end [0] []

end Go.TL

/- What a command does to a roll, in plain words, and that the reference does it. No conditions but those that are written. -/
namespace Go.TL
set_option linter.unusedSimpArgs false
open Go.Proofs Go.RowKit
attribute [local irreducible] wpOpsT wpT EndT Ex.seq Ex.block W

def applyR (of : Int) (rels : List RelV) (act : Int) (order : List Int) (k r n z : Int) (d : ByteArray) : RollV × Int :=
  if k = 1 then (⟨of, rels, act, order⟩, 0)
  else if k = 2 then
    if 0 < (rels.length : Int) ∧ r ≤ (nth rels ((rels.length : Int) - 1)).no then (⟨of, rels, act, order⟩, 2)
    else if (rels.length : Int) = 30 then (⟨of, rels, act, order⟩, 7)
    else (⟨of, rels ++ [⟨r, z, d, [], 1⟩], act, order⟩, 0)
  else if findR rels r < 0 ∨ of ≤ n then (⟨of, rels, act, order⟩, 3)
  else if ¬ (nth rels (findR rels r)).state = 1 then (⟨of, rels, act, order⟩, 4)
  else if k = 3 then (⟨of, rels.set (findR rels r).toNat { nth rels (findR rels r) with ready := putI (nth rels (findR rels r)).ready n }, act, order⟩, 0)
  else if k = 4 then
    if r ≤ act then (⟨of, rels, act, order⟩, 6)
    else if ((nth rels (findR rels r)).ready.length : Int) < of then (⟨of, rels, act, order⟩, 5)
    else (⟨of, rels.set (findR rels r).toNat { nth rels (findR rels r) with state := 2 }, r, order ++ [r]⟩, 0)
  else if k = 5 then (⟨of, rels.set (findR rels r).toNat { nth rels (findR rels r) with state := 3 }, act, order⟩, 0)
  else (⟨of, rels, act, order⟩, 0)
def applyP (of : Int) (rels : List RelV) (act : Int) (order : List Int) (k r n z : Int) (d : ByteArray) : RollV × Int :=
  if rollP of rels act order ∧ cmdP k r n z d then applyR of rels act order k r n z d else (⟨0, [], 0, []⟩, 1)

theorem isE {α : Type} {l : List α} (h : l ≠ []) : (!l.isEmpty) = true := by cases l with | nil => exact absurd rfl h | cons => rfl
theorem Wk.nilO : Wk (.v (.slice none 0 0)) (ownC 0 1 []) := by rw [ownC_nil]; exact .nil _ _
theorem ne_set {α : Type} {l : List α} (h : l ≠ []) (i : Nat) (x : α) : l.set i x ≠ [] := by cases l with | nil => exact absurd rfl h | cons => cases i <;> simp
theorem row_set {α : Type} (enc : α → List T) (l : List α) (i : Nat) (x : α) (hi : i < l.length) : rowT enc (l.set i x) = rowT enc (l.take i) ++ (enc x ++ rowT enc (l.drop (i + 1))) := by
  rw [List.set_eq_take_append_cons_drop, if_pos hi, rowT_append, rowT_cons]
/-- A roll that is one's own. -/
def rollT (x : RollV) : T := .agg [.v (.int .i64 x.of), rowR 5 0 x.rels, .v (.int .i64 x.act), rowR 1 1 x.order]
def rollS (x : RollV) : Store := [⟨5, !x.rels.isEmpty, rowT relO x.rels⟩, ⟨1, !x.order.isEmpty, rowT i64C x.order⟩]

set_option linter.unusedSimpArgs false in
set_option maxHeartbeats 8000000 in
theorem spec_RollApply (k0 k1 : Nat) (of : Int) (rels : List RelV) (act : Int) (order : List Int) (k r n z : Int) (d : ByteArray) (hb : bndRoll rels order) (hpre : totRoll rels order ≤ 1048576) :
    CallsT Try.prog [] F.spec_RollApply [.agg [.v (.int .i64 of), .sl false k0 rels.length 5 (rowT relC rels), .v (.int .i64 act), .sl false k1 order.length 1 (rowT i64C order)], .agg [.v (.int .i64 k), .v (.int .i64 r), .v (.int .i64 n), .v (.int .i64 z), .v (.string d)]] (.tup [rollT (applyP of rels act order k r n z d).1, .v (.int .i64 ((applyP of rels act order k r n z d).2))]) (rollS (applyP of rels act order k r n z d).1) := by
  have hlr := rels_len hpre
  have hlo : order.length ≤ 1048576 := by
    have h3 := sum_nn totRelV_nn rels
    have h6 : totIS order = order.length := rfl
    unfold totRoll totRelS at hpre
    omega
  refine fnT C.spec_RollApply ?_
  refine run ?_
  refine r_ifd (fun h => ?_) (fun h => ?_)
  · rw [show applyP of rels act order k r n z d = (⟨0, [], 0, []⟩, 1) from if_neg (by grind)]
    dsimp only [rollT, rollS]
    refine run ?_
    exact r_end [0, 1] [] (hres := by (simp only [go_sem, ↓reduceIte, Nat.reduceEqDiff, Nat.reduceMul, Nat.reduceAdd, Nat.reduceSub, Nat.reduceLT, Nat.reduceGT, Nat.reduceLeDiff, Nat.reduceBEq, Int.reduceLT, Int.reduceLE, Int.reduceNe, Int.reduceEq, Int.reduceToNat, Int.reduceAdd, Int.reduceSub, Int.reduceMul, Int.reduceNeg, Nat.reducePow, Int.reducePow, Nat.reduceSubDiff, decide_true, decide_false, reduceCtorEq, or_self, or_false, false_or, or_true, true_or, if_false, gt_iff_lt, ge_iff_le, ne_eq, not_true_eq_false, not_false_eq_true, and_self, beq_self_eq_true, Bool.false_eq_true]; try (repeat (first | exact True.intro | exact Wk.refl _ | exact Wk.nilR _ _ _ | exact Wk.nil _ _ | exact Wk.dead _ | exact Wk.bT (by assumption) | exact Wk.bF (by assumption) | exact Wk.eqI (by omega) | exact WkS.refl _ | exact Wks.same _ | exact Wks.nil | exact WkS.nil | refine And.intro ?_ ?_ | refine Wk.aggs ?_ | refine Wk.tups ?_ | refine Wks.cons ?_ ?_ | refine WkS.cons (by first | exact fun _ => rfl | exact fun h => absurd h Bool.false_ne_true) ?_ ?_ ?_ | assumption | exact (fun h => h) | exact (fun h => absurd h Bool.false_ne_true) | intro _))))
  have hok : rollP of rels act order ∧ cmdP k r n z d := by grind
  rw [show applyP of rels act order k r n z d = applyR of rels act order k r n z d from if_pos hok]
  refine runC ?_
  refine r_callp true (spec_l7Copy 1 1 of rels act order hpre) ?_
  refine run ?_
  refine r_ifd (fun h1 => ?_) (fun h1 => ?_)
  · rw [show applyR of rels act order k r n z d = (⟨of, rels, act, order⟩, 0) from if_pos h1]
    dsimp only [rollT, rollS]
    refine run ?_
    exact r_end [3, 4] [.sealR 4] (hres := by (simp only [go_sem, ↓reduceIte, Nat.reduceEqDiff, Nat.reduceMul, Nat.reduceAdd, Nat.reduceSub, Nat.reduceLT, Nat.reduceGT, Nat.reduceLeDiff, Nat.reduceBEq, Int.reduceLT, Int.reduceLE, Int.reduceNe, Int.reduceEq, Int.reduceToNat, Int.reduceAdd, Int.reduceSub, Int.reduceMul, Int.reduceNeg, Nat.reducePow, Int.reducePow, Nat.reduceSubDiff, decide_true, decide_false, reduceCtorEq, or_self, or_false, false_or, or_true, true_or, if_false, gt_iff_lt, ge_iff_le, ne_eq, not_true_eq_false, not_false_eq_true, and_self, beq_self_eq_true, Bool.false_eq_true]; try (repeat (first | exact True.intro | exact Wk.refl _ | exact Wk.nilR _ _ _ | exact Wk.nil _ _ | exact Wk.dead _ | exact Wk.bT (by assumption) | exact Wk.bF (by assumption) | exact Wk.eqI (by omega) | exact WkS.refl _ | exact Wks.same _ | exact Wks.nil | exact WkS.nil | refine And.intro ?_ ?_ | refine Wk.aggs ?_ | refine Wk.tups ?_ | refine Wks.cons ?_ ?_ | refine WkS.cons (by first | exact fun _ => rfl | exact fun h => absurd h Bool.false_ne_true) ?_ ?_ ?_ | assumption | exact (fun h => h) | exact (fun h => absurd h Bool.false_ne_true) | intro _))))
  refine run ?_
  refine r_ifd (fun h2 => ?_) (fun h2 => ?_)
  · have ea : ∀ x, applyR of rels act order k r n z d = x ↔ (if 0 < (rels.length : Int) ∧ r ≤ (nth rels ((rels.length : Int) - 1)).no then (⟨of, rels, act, order⟩, 2) else if (rels.length : Int) = 30 then (⟨of, rels, act, order⟩, 7) else ((⟨of, rels ++ [⟨r, z, d, [], 1⟩], act, order⟩ : RollV), (0 : Int))) = x := fun x => by
      unfold applyR; rw [if_neg h1, if_pos h2]
    refine run ?_
    refine r_ifd (fun h3 => ?_) (fun h3 => ?_)
    · rw [(ea _).2 (if_pos h3)]
      (dsimp only [rollT, rollS]; refine run ?_; exact r_end [3, 4] [.sealR 4] (hres := by (simp only [go_sem, ↓reduceIte, Nat.reduceEqDiff, Nat.reduceMul, Nat.reduceAdd, Nat.reduceSub, Nat.reduceLT, Nat.reduceGT, Nat.reduceLeDiff, Nat.reduceBEq, Int.reduceLT, Int.reduceLE, Int.reduceNe, Int.reduceEq, Int.reduceToNat, Int.reduceAdd, Int.reduceSub, Int.reduceMul, Int.reduceNeg, Nat.reducePow, Int.reducePow, Nat.reduceSubDiff, decide_true, decide_false, reduceCtorEq, or_self, or_false, false_or, or_true, true_or, if_false, gt_iff_lt, ge_iff_le, ne_eq, not_true_eq_false, not_false_eq_true, and_self, beq_self_eq_true, Bool.false_eq_true]; try (repeat (first | exact True.intro | exact Wk.refl _ | exact Wk.nilR _ _ _ | exact Wk.nil _ _ | exact Wk.dead _ | exact Wk.bT (by assumption) | exact Wk.bF (by assumption) | exact Wk.eqI (by omega) | exact WkS.refl _ | exact Wks.same _ | exact Wks.nil | exact WkS.nil | refine And.intro ?_ ?_ | refine Wk.aggs ?_ | refine Wk.tups ?_ | refine Wks.cons ?_ ?_ | refine WkS.cons (by first | exact fun _ => rfl | exact fun h => absurd h Bool.false_ne_true) ?_ ?_ ?_ | assumption | exact (fun h => h) | exact (fun h => absurd h Bool.false_ne_true) | intro _)))))
    refine run ?_
    refine r_ifd (fun h4 => ?_) (fun h4 => ?_)
    · rw [(ea _).2 ((if_neg h3).trans (if_pos h4))]
      (dsimp only [rollT, rollS]; refine run ?_; exact r_end [3, 4] [.sealR 4] (hres := by (simp only [go_sem, ↓reduceIte, Nat.reduceEqDiff, Nat.reduceMul, Nat.reduceAdd, Nat.reduceSub, Nat.reduceLT, Nat.reduceGT, Nat.reduceLeDiff, Nat.reduceBEq, Int.reduceLT, Int.reduceLE, Int.reduceNe, Int.reduceEq, Int.reduceToNat, Int.reduceAdd, Int.reduceSub, Int.reduceMul, Int.reduceNeg, Nat.reducePow, Int.reducePow, Nat.reduceSubDiff, decide_true, decide_false, reduceCtorEq, or_self, or_false, false_or, or_true, true_or, if_false, gt_iff_lt, ge_iff_le, ne_eq, not_true_eq_false, not_false_eq_true, and_self, beq_self_eq_true, Bool.false_eq_true]; try (repeat (first | exact True.intro | exact Wk.refl _ | exact Wk.nilR _ _ _ | exact Wk.nil _ _ | exact Wk.dead _ | exact Wk.bT (by assumption) | exact Wk.bF (by assumption) | exact Wk.eqI (by omega) | exact WkS.refl _ | exact Wks.same _ | exact Wks.nil | exact WkS.nil | refine And.intro ?_ ?_ | refine Wk.aggs ?_ | refine Wk.tups ?_ | refine Wks.cons ?_ ?_ | refine WkS.cons (by first | exact fun _ => rfl | exact fun h => absurd h Bool.false_ne_true) ?_ ?_ ?_ | assumption | exact (fun h => h) | exact (fun h => absurd h Bool.false_ne_true) | intro _)))))
    rw [(ea _).2 ((if_neg h3).trans (if_neg h4))]
    dsimp only [rollT, rollS]
    rw [rowR_ne 5 0 (ne_app rels _), live_app]
    by_cases hne : rels = []
    · subst hne
      rw [nilR_nil]
      refine run ?_
      refine r_apz ?_
      refine run ?_
      refine r_end [7, 4] [.sealR 4] (hs := ?_) (hres := by (simp only [go_sem, ↓reduceIte, Nat.reduceEqDiff, Nat.reduceMul, Nat.reduceAdd, Nat.reduceSub, Nat.reduceLT, Nat.reduceGT, Nat.reduceLeDiff, Nat.reduceBEq, Int.reduceLT, Int.reduceLE, Int.reduceNe, Int.reduceEq, Int.reduceToNat, Int.reduceAdd, Int.reduceSub, Int.reduceMul, Int.reduceNeg, Nat.reducePow, Int.reducePow, Nat.reduceSubDiff, decide_true, decide_false, reduceCtorEq, or_self, or_false, false_or, or_true, true_or, if_false, gt_iff_lt, ge_iff_le, ne_eq, not_true_eq_false, not_false_eq_true, and_self, beq_self_eq_true, Bool.false_eq_true]; try (repeat (first | exact True.intro | exact Wk.refl _ | exact Wk.nilR _ _ _ | exact Wk.nil _ _ | exact Wk.dead _ | exact Wk.bT (by assumption) | exact Wk.bF (by assumption) | exact Wk.eqI (by omega) | exact WkS.refl _ | exact Wks.same _ | exact Wks.nil | exact WkS.nil | refine And.intro ?_ ?_ | refine Wk.aggs ?_ | refine Wk.tups ?_ | refine Wks.cons ?_ ?_ | refine WkS.cons (by first | exact fun _ => rfl | exact fun h => absurd h Bool.false_ne_true) ?_ ?_ ?_ | assumption | exact (fun h => h) | exact (fun h => absurd h Bool.false_ne_true) | intro _))))
      rw [rowT_append, rowT_1]
      simp (disch := omega) only [go_sem, ↓reduceIte, Nat.reduceEqDiff, Nat.reduceMul, Nat.reduceAdd, Nat.reduceSub, Nat.reduceLT, Nat.reduceGT, Nat.reduceLeDiff, Nat.reduceBEq, Int.reduceLT, Int.reduceLE, Int.reduceNe, Int.reduceEq, Int.reduceToNat, Int.reduceAdd, Int.reduceSub, Int.reduceMul, Int.reduceNeg, Nat.reducePow, Int.reducePow, Nat.reduceSubDiff, decide_true, decide_false, reduceCtorEq, or_self, or_false, false_or, or_true, true_or, if_false, gt_iff_lt, ge_iff_le, ne_eq, not_true_eq_false, not_false_eq_true, and_self, beq_self_eq_true, Bool.false_eq_true]
      exact .cons (fun _ => rfl) (fun _ => rfl) (fun _ => .cons (.refl _) (.cons (.refl _) (.cons (.refl _) (.cons Wk.nilO (.cons (.refl _) .nil))))) (WkS.refl _)
    · rw [nilR_ne 3 hne, isE hne]
      refine run ?_
      refine r_apw ?_
      refine run ?_
      refine r_end [7, 4] [.sealR 4] (hs := ?_) (hres := ?_)
      · rw [rowT_append, rowT_1]
        simp (disch := omega) only [go_sem, ↓reduceIte, Nat.reduceEqDiff, Nat.reduceMul, Nat.reduceAdd, Nat.reduceSub, Nat.reduceLT, Nat.reduceGT, Nat.reduceLeDiff, Nat.reduceBEq, Int.reduceLT, Int.reduceLE, Int.reduceNe, Int.reduceEq, Int.reduceToNat, Int.reduceAdd, Int.reduceSub, Int.reduceMul, Int.reduceNeg, Nat.reducePow, Int.reducePow, Nat.reduceSubDiff, decide_true, decide_false, reduceCtorEq, or_self, or_false, false_or, or_true, true_or, if_false, gt_iff_lt, ge_iff_le, ne_eq, not_true_eq_false, not_false_eq_true, and_self, beq_self_eq_true, Bool.false_eq_true]
        exact .cons (fun _ => rfl) (fun _ => rfl) (fun _ => Wks.tail _ (.cons (.refl _) (.cons (.refl _) (.cons (.refl _) (.cons Wk.nilO (.cons (.refl _) .nil)))))) (WkS.refl _)
      · rw [List.length_append]
        (simp only [go_sem, ↓reduceIte, Nat.reduceEqDiff, Nat.reduceMul, Nat.reduceAdd, Nat.reduceSub, Nat.reduceLT, Nat.reduceGT, Nat.reduceLeDiff, Nat.reduceBEq, Int.reduceLT, Int.reduceLE, Int.reduceNe, Int.reduceEq, Int.reduceToNat, Int.reduceAdd, Int.reduceSub, Int.reduceMul, Int.reduceNeg, Nat.reducePow, Int.reducePow, Nat.reduceSubDiff, decide_true, decide_false, reduceCtorEq, or_self, or_false, false_or, or_true, true_or, if_false, gt_iff_lt, ge_iff_le, ne_eq, not_true_eq_false, not_false_eq_true, and_self, beq_self_eq_true, Bool.false_eq_true]; try (repeat (first | exact True.intro | exact Wk.refl _ | exact Wk.nilR _ _ _ | exact Wk.nil _ _ | exact Wk.dead _ | exact Wk.bT (by assumption) | exact Wk.bF (by assumption) | exact Wk.eqI (by omega) | exact WkS.refl _ | exact Wks.same _ | exact Wks.nil | exact WkS.nil | refine And.intro ?_ ?_ | refine Wk.aggs ?_ | refine Wk.tups ?_ | refine Wks.cons ?_ ?_ | refine WkS.cons (by first | exact fun _ => rfl | exact fun h => absurd h Bool.false_ne_true) ?_ ?_ ?_ | assumption | exact (fun h => h) | exact (fun h => absurd h Bool.false_ne_true) | intro _)))
  refine run ?_
  refine r_ifd (fun h3 => ?_) (fun h3 => ?_)
  · rw [show applyR of rels act order k r n z d = (⟨of, rels, act, order⟩, 3) by unfold applyR; rw [if_neg h1, if_neg h2, if_pos h3]]
    (dsimp only [rollT, rollS]; refine run ?_; exact r_end [3, 4] [.sealR 4] (hres := by (simp only [go_sem, ↓reduceIte, Nat.reduceEqDiff, Nat.reduceMul, Nat.reduceAdd, Nat.reduceSub, Nat.reduceLT, Nat.reduceGT, Nat.reduceLeDiff, Nat.reduceBEq, Int.reduceLT, Int.reduceLE, Int.reduceNe, Int.reduceEq, Int.reduceToNat, Int.reduceAdd, Int.reduceSub, Int.reduceMul, Int.reduceNeg, Nat.reducePow, Int.reducePow, Nat.reduceSubDiff, decide_true, decide_false, reduceCtorEq, or_self, or_false, false_or, or_true, true_or, if_false, gt_iff_lt, ge_iff_le, ne_eq, not_true_eq_false, not_false_eq_true, and_self, beq_self_eq_true, Bool.false_eq_true]; try (repeat (first | exact True.intro | exact Wk.refl _ | exact Wk.nilR _ _ _ | exact Wk.nil _ _ | exact Wk.dead _ | exact Wk.bT (by assumption) | exact Wk.bF (by assumption) | exact Wk.eqI (by omega) | exact WkS.refl _ | exact Wks.same _ | exact Wks.nil | exact WkS.nil | refine And.intro ?_ ?_ | refine Wk.aggs ?_ | refine Wk.tups ?_ | refine Wks.cons ?_ ?_ | refine WkS.cons (by first | exact fun _ => rfl | exact fun h => absurd h Bool.false_ne_true) ?_ ?_ ?_ | assumption | exact (fun h => h) | exact (fun h => absurd h Bool.false_ne_true) | intro _)))))
  have hfb := findR_b rels r
  have ea : ¬ (nth rels (findR rels r)).state = 1 ∨ applyR of rels act order k r n z d = (if k = 3 then (⟨of, rels.set (findR rels r).toNat { nth rels (findR rels r) with ready := putI (nth rels (findR rels r)).ready n }, act, order⟩, 0)
      else if k = 4 then
        if r ≤ act then (⟨of, rels, act, order⟩, 6)
        else if ((nth rels (findR rels r)).ready.length : Int) < of then (⟨of, rels, act, order⟩, 5)
        else (⟨of, rels.set (findR rels r).toNat { nth rels (findR rels r) with state := 2 }, r, order ++ [r]⟩, 0)
      else if k = 5 then (⟨of, rels.set (findR rels r).toNat { nth rels (findR rels r) with state := 3 }, act, order⟩, 0)
      else ((⟨of, rels, act, order⟩ : RollV), (0 : Int))) := by
    by_cases h4 : (nth rels (findR rels r)).state = 1
    · right; unfold applyR; rw [if_neg h1, if_neg h2, if_neg h3, if_neg (by simpa using h4)]
    · exact .inl h4
  have eb : ¬ (nth rels (findR rels r)).state = 1 → applyR of rels act order k r n z d = (⟨of, rels, act, order⟩, 4) := fun h4 => by
    unfold applyR; rw [if_neg h1, if_neg h2, if_neg h3, if_pos h4]
  generalize findR rels r = fi at *
  obtain ⟨i, rfl⟩ := Int.eq_ofNat_of_zero_le (show 0 ≤ fi by omega)
  rw [Int.toNat_natCast] at ea
  have hil : i < rels.length := by omega
  refine run ?_
  refine r_ifd (fun h4 => ?_) (fun h4 => ?_)
  · rw [eb h4]
    (dsimp only [rollT, rollS]; refine run ?_; exact r_end [3, 4] [.sealR 4] (hres := by (simp only [go_sem, ↓reduceIte, Nat.reduceEqDiff, Nat.reduceMul, Nat.reduceAdd, Nat.reduceSub, Nat.reduceLT, Nat.reduceGT, Nat.reduceLeDiff, Nat.reduceBEq, Int.reduceLT, Int.reduceLE, Int.reduceNe, Int.reduceEq, Int.reduceToNat, Int.reduceAdd, Int.reduceSub, Int.reduceMul, Int.reduceNeg, Nat.reducePow, Int.reducePow, Nat.reduceSubDiff, decide_true, decide_false, reduceCtorEq, or_self, or_false, false_or, or_true, true_or, if_false, gt_iff_lt, ge_iff_le, ne_eq, not_true_eq_false, not_false_eq_true, and_self, beq_self_eq_true, Bool.false_eq_true]; try (repeat (first | exact True.intro | exact Wk.refl _ | exact Wk.nilR _ _ _ | exact Wk.nil _ _ | exact Wk.dead _ | exact Wk.bT (by assumption) | exact Wk.bF (by assumption) | exact Wk.eqI (by omega) | exact WkS.refl _ | exact Wks.same _ | exact Wks.nil | exact WkS.nil | refine And.intro ?_ ?_ | refine Wk.aggs ?_ | refine Wk.tups ?_ | refine Wks.cons ?_ ?_ | refine WkS.cons (by first | exact fun _ => rfl | exact fun h => absurd h Bool.false_ne_true) ?_ ?_ ?_ | assumption | exact (fun h => h) | exact (fun h => absurd h Bool.false_ne_true) | intro _)))))
  have ea := ea.resolve_left h4
  rw [ea]
  clear ea eb
  have hne : rels ≠ [] := by intro h; rw [h] at hil; simp at hil
  rw [nilR_ne 3 hne, isE hne]
  refine run ?_
  refine r_ifd (fun h5 => ?_) (fun h5 => ?_)
  · rw [if_pos h5]
    have hput : ∀ q, CallsT Try.prog [] F.spec_l7Put [.sl false q (nth rels (i : Nat)).ready.length 1 (rowT i64C (nth rels (i : Nat)).ready), .v (.int .i64 n)] (.ref 0 [] 0 (putI (nth rels (i : Nat)).ready n).length) [⟨1, true, rowT i64C (putI (nth rels (i : Nat)).ready n)⟩] := fun q => spec_l7Put q _ _ (ready_len hpre (x := (i : Int)) (by omega) (by omega)).1
    rw [row_split (enc := relO) rels i hil]
    dsimp only [relO, List.cons_append, List.nil_append]
    have ht : (rels.take i).length = i := by rw [List.length_take]; omega
    by_cases hr : (nth rels (i : Nat)).ready.length = 0
    · have hrn := List.eq_nil_of_length_eq_zero hr
      rw [hrn] at hput ⊢
      rw [show ownC ([] : List Int).length 1 (rowT i64C []) = .sl false 0 0 1 [] from ownC_nil _ _]
      refine runC ?_
      refine r_callp true (hput 1) ?_
      refine run ?_
      refine r_stw ?_
      dsimp only [rollT, rollS]
      rw [rowR_ne 5 0 (ne_set hne i _), isE (ne_set hne i _), row_set relO rels i _ hil, List.length_set]
      refine run ?_
      refine r_end [7, 4] [.sealR 4, .nest 3 [] (i * 5 + 3) 6] (hs := ?_) (hres := by (simp (disch := omega) only [go_sem, ↓reduceIte, Nat.reduceEqDiff, Nat.reduceMul, Nat.reduceAdd, Nat.reduceSub, Nat.reduceLT, Nat.reduceGT, Nat.reduceLeDiff, Nat.reduceBEq, Int.reduceLT, Int.reduceLE, Int.reduceNe, Int.reduceEq, Int.reduceToNat, Int.reduceAdd, Int.reduceSub, Int.reduceMul, Int.reduceNeg, Nat.reducePow, Int.reducePow, Nat.reduceSubDiff, decide_true, decide_false, reduceCtorEq, or_self, or_false, false_or, or_true, true_or, if_false, gt_iff_lt, ge_iff_le, ne_eq, not_true_eq_false, not_false_eq_true, and_self, beq_self_eq_true, Bool.false_eq_true]; try (repeat (first | exact True.intro | exact Wk.refl _ | exact Wk.nilR _ _ _ | exact Wk.nil _ _ | exact Wk.dead _ | exact Wk.bT (by assumption) | exact Wk.bF (by assumption) | exact Wk.eqI (by omega) | exact WkS.refl _ | exact Wks.same _ | exact Wks.nil | exact WkS.nil | refine And.intro ?_ ?_ | refine Wk.aggs ?_ | refine Wk.tups ?_ | refine Wks.cons ?_ ?_ | refine WkS.cons (by first | exact fun _ => rfl | exact fun h => absurd h Bool.false_ne_true) ?_ ?_ ?_ | assumption | exact (fun h => h) | exact (fun h => absurd h Bool.false_ne_true) | intro _))))
      dsimp only [relO]
      (simp (disch := omega) only [go_sem, ↓reduceIte, Nat.reduceEqDiff, Nat.reduceMul, Nat.reduceAdd, Nat.reduceSub, Nat.reduceLT, Nat.reduceGT, Nat.reduceLeDiff, Nat.reduceBEq, Int.reduceLT, Int.reduceLE, Int.reduceNe, Int.reduceEq, Int.reduceToNat, Int.reduceAdd, Int.reduceSub, Int.reduceMul, Int.reduceNeg, Nat.reducePow, Int.reducePow, Nat.reduceSubDiff, decide_true, decide_false, reduceCtorEq, or_self, or_false, false_or, or_true, true_or, if_false, gt_iff_lt, ge_iff_le, ne_eq, not_true_eq_false, not_false_eq_true, and_self, beq_self_eq_true, Bool.false_eq_true, List.append_assoc]; exact WkS.refl _)
    rw [ownC_pos _ _ hr]
    refine runC ?_
    refine r_callp true (hput 1) (ha := by ((simp (disch := omega) only [go_sem, ↓reduceIte, Nat.reduceEqDiff, Nat.reduceMul, Nat.reduceAdd, Nat.reduceSub, Nat.reduceLT, Nat.reduceGT, Nat.reduceLeDiff, Nat.reduceBEq, Int.reduceLT, Int.reduceLE, Int.reduceNe, Int.reduceEq, Int.reduceToNat, Int.reduceAdd, Int.reduceSub, Int.reduceMul, Int.reduceNeg, Nat.reducePow, Int.reducePow, Nat.reduceSubDiff, decide_true, decide_false, reduceCtorEq, or_self, or_false, false_or, or_true, true_or, if_false, gt_iff_lt, ge_iff_le, ne_eq, not_true_eq_false, not_false_eq_true, and_self, beq_self_eq_true, Bool.false_eq_true]) <;> with_reducible rfl)) ?_
    refine run ?_
    refine r_stw ?_
    dsimp only [rollT, rollS]
    rw [rowR_ne 5 0 (ne_set hne i _), isE (ne_set hne i _), row_set relO rels i _ hil, List.length_set]
    refine run ?_
    refine r_end [7, 4] [.sealR 4, .nest 3 [] (i * 5 + 3) 6] (hs := ?_) (hres := by (simp (disch := omega) only [go_sem, ↓reduceIte, Nat.reduceEqDiff, Nat.reduceMul, Nat.reduceAdd, Nat.reduceSub, Nat.reduceLT, Nat.reduceGT, Nat.reduceLeDiff, Nat.reduceBEq, Int.reduceLT, Int.reduceLE, Int.reduceNe, Int.reduceEq, Int.reduceToNat, Int.reduceAdd, Int.reduceSub, Int.reduceMul, Int.reduceNeg, Nat.reducePow, Int.reducePow, Nat.reduceSubDiff, decide_true, decide_false, reduceCtorEq, or_self, or_false, false_or, or_true, true_or, if_false, gt_iff_lt, ge_iff_le, ne_eq, not_true_eq_false, not_false_eq_true, and_self, beq_self_eq_true, Bool.false_eq_true]; try (repeat (first | exact True.intro | exact Wk.refl _ | exact Wk.nilR _ _ _ | exact Wk.nil _ _ | exact Wk.dead _ | exact Wk.bT (by assumption) | exact Wk.bF (by assumption) | exact Wk.eqI (by omega) | exact WkS.refl _ | exact Wks.same _ | exact Wks.nil | exact WkS.nil | refine And.intro ?_ ?_ | refine Wk.aggs ?_ | refine Wk.tups ?_ | refine Wks.cons ?_ ?_ | refine WkS.cons (by first | exact fun _ => rfl | exact fun h => absurd h Bool.false_ne_true) ?_ ?_ ?_ | assumption | exact (fun h => h) | exact (fun h => absurd h Bool.false_ne_true) | intro _))))
    dsimp only [relO]
    (simp (disch := omega) only [go_sem, ↓reduceIte, Nat.reduceEqDiff, Nat.reduceMul, Nat.reduceAdd, Nat.reduceSub, Nat.reduceLT, Nat.reduceGT, Nat.reduceLeDiff, Nat.reduceBEq, Int.reduceLT, Int.reduceLE, Int.reduceNe, Int.reduceEq, Int.reduceToNat, Int.reduceAdd, Int.reduceSub, Int.reduceMul, Int.reduceNeg, Nat.reducePow, Int.reducePow, Nat.reduceSubDiff, decide_true, decide_false, reduceCtorEq, or_self, or_false, false_or, or_true, true_or, if_false, gt_iff_lt, ge_iff_le, ne_eq, not_true_eq_false, not_false_eq_true, and_self, beq_self_eq_true, Bool.false_eq_true, List.append_assoc]; exact WkS.refl _)
  refine run ?_
  refine r_ifd (fun h6 => ?_) (fun h6 => ?_)
  · rw [if_neg h5, if_pos h6]
    refine run ?_
    refine r_ifd (fun h7 => ?_) (fun h7 => ?_)
    · rw [if_pos h7]
      (dsimp only [rollT, rollS]; rw [rowR_ne 5 0 hne, isE hne]; refine run ?_; exact r_end [3, 4] [.sealR 4] (hres := by (simp only [go_sem, ↓reduceIte, Nat.reduceEqDiff, Nat.reduceMul, Nat.reduceAdd, Nat.reduceSub, Nat.reduceLT, Nat.reduceGT, Nat.reduceLeDiff, Nat.reduceBEq, Int.reduceLT, Int.reduceLE, Int.reduceNe, Int.reduceEq, Int.reduceToNat, Int.reduceAdd, Int.reduceSub, Int.reduceMul, Int.reduceNeg, Nat.reducePow, Int.reducePow, Nat.reduceSubDiff, decide_true, decide_false, reduceCtorEq, or_self, or_false, false_or, or_true, true_or, if_false, gt_iff_lt, ge_iff_le, ne_eq, not_true_eq_false, not_false_eq_true, and_self, beq_self_eq_true, Bool.false_eq_true]; try (repeat (first | exact True.intro | exact Wk.refl _ | exact Wk.nilR _ _ _ | exact Wk.nil _ _ | exact Wk.dead _ | exact Wk.bT (by assumption) | exact Wk.bF (by assumption) | exact Wk.eqI (by omega) | exact WkS.refl _ | exact Wks.same _ | exact Wks.nil | exact WkS.nil | refine And.intro ?_ ?_ | refine Wk.aggs ?_ | refine Wk.tups ?_ | refine Wks.cons ?_ ?_ | refine WkS.cons (by first | exact fun _ => rfl | exact fun h => absurd h Bool.false_ne_true) ?_ ?_ ?_ | assumption | exact (fun h => h) | exact (fun h => absurd h Bool.false_ne_true) | intro _)))))
    refine run ?_
    refine r_ifd (fun h8 => ?_) (fun h8 => ?_)
    · rw [if_neg h7, if_pos h8]
      (dsimp only [rollT, rollS]; rw [rowR_ne 5 0 hne, isE hne]; refine run ?_; exact r_end [3, 4] [.sealR 4] (hres := by (simp only [go_sem, ↓reduceIte, Nat.reduceEqDiff, Nat.reduceMul, Nat.reduceAdd, Nat.reduceSub, Nat.reduceLT, Nat.reduceGT, Nat.reduceLeDiff, Nat.reduceBEq, Int.reduceLT, Int.reduceLE, Int.reduceNe, Int.reduceEq, Int.reduceToNat, Int.reduceAdd, Int.reduceSub, Int.reduceMul, Int.reduceNeg, Nat.reducePow, Int.reducePow, Nat.reduceSubDiff, decide_true, decide_false, reduceCtorEq, or_self, or_false, false_or, or_true, true_or, if_false, gt_iff_lt, ge_iff_le, ne_eq, not_true_eq_false, not_false_eq_true, and_self, beq_self_eq_true, Bool.false_eq_true]; try (repeat (first | exact True.intro | exact Wk.refl _ | exact Wk.nilR _ _ _ | exact Wk.nil _ _ | exact Wk.dead _ | exact Wk.bT (by assumption) | exact Wk.bF (by assumption) | exact Wk.eqI (by omega) | exact WkS.refl _ | exact Wks.same _ | exact Wks.nil | exact WkS.nil | refine And.intro ?_ ?_ | refine Wk.aggs ?_ | refine Wk.tups ?_ | refine Wks.cons ?_ ?_ | refine WkS.cons (by first | exact fun _ => rfl | exact fun h => absurd h Bool.false_ne_true) ?_ ?_ ?_ | assumption | exact (fun h => h) | exact (fun h => absurd h Bool.false_ne_true) | intro _)))))
    rw [if_neg h7, if_neg h8]
    rw [row_split (enc := relO) rels i hil]
    dsimp only [relO, List.cons_append, List.nil_append]
    have ht : (rels.take i).length = i := by rw [List.length_take]; omega
    refine run ?_
    refine r_stw ?_
    refine run ?_
    dsimp only [rollT, rollS]
    rw [rowR_ne 5 0 (ne_set hne i _), isE (ne_set hne i _), row_set relO rels i _ hil, List.length_set, rowR_ne 1 1 (ne_app order _), live_app]
    refine r_end [3, 7] [] (hs := ?_) (hres := by (simp only [go_sem, ↓reduceIte, Nat.reduceEqDiff, Nat.reduceMul, Nat.reduceAdd, Nat.reduceSub, Nat.reduceLT, Nat.reduceGT, Nat.reduceLeDiff, Nat.reduceBEq, Int.reduceLT, Int.reduceLE, Int.reduceNe, Int.reduceEq, Int.reduceToNat, Int.reduceAdd, Int.reduceSub, Int.reduceMul, Int.reduceNeg, Nat.reducePow, Int.reducePow, Nat.reduceSubDiff, decide_true, decide_false, reduceCtorEq, or_self, or_false, false_or, or_true, true_or, if_false, gt_iff_lt, ge_iff_le, ne_eq, not_true_eq_false, not_false_eq_true, and_self, beq_self_eq_true, Bool.false_eq_true]; try (repeat (first | exact True.intro | exact Wk.refl _ | exact Wk.nilR _ _ _ | exact Wk.nil _ _ | exact Wk.dead _ | exact Wk.bT (by assumption) | exact Wk.bF (by assumption) | exact Wk.eqI (by omega) | exact WkS.refl _ | exact Wks.same _ | exact Wks.nil | exact WkS.nil | refine And.intro ?_ ?_ | refine Wk.aggs ?_ | refine Wk.tups ?_ | refine Wks.cons ?_ ?_ | refine WkS.cons (by first | exact fun _ => rfl | exact fun h => absurd h Bool.false_ne_true) ?_ ?_ ?_ | assumption | exact (fun h => h) | exact (fun h => absurd h Bool.false_ne_true) | intro _))))
    dsimp only [relO]
    (simp (disch := omega) only [go_sem, ↓reduceIte, Nat.reduceEqDiff, Nat.reduceMul, Nat.reduceAdd, Nat.reduceSub, Nat.reduceLT, Nat.reduceGT, Nat.reduceLeDiff, Nat.reduceBEq, Int.reduceLT, Int.reduceLE, Int.reduceNe, Int.reduceEq, Int.reduceToNat, Int.reduceAdd, Int.reduceSub, Int.reduceMul, Int.reduceNeg, Nat.reducePow, Int.reducePow, Nat.reduceSubDiff, decide_true, decide_false, reduceCtorEq, or_self, or_false, false_or, or_true, true_or, if_false, gt_iff_lt, ge_iff_le, ne_eq, not_true_eq_false, not_false_eq_true, and_self, beq_self_eq_true, Bool.false_eq_true, List.append_assoc]; exact WkS.refl _)
  refine run ?_
  refine r_ifd (fun h7 => ?_) (fun h7 => ?_)
  · rw [if_neg h5, if_neg h6, if_pos h7]
    rw [row_split (enc := relO) rels i hil]
    dsimp only [relO, List.cons_append, List.nil_append]
    have ht : (rels.take i).length = i := by rw [List.length_take]; omega
    refine run ?_
    refine r_stw ?_
    refine run ?_
    dsimp only [rollT, rollS]
    rw [rowR_ne 5 0 (ne_set hne i _), isE (ne_set hne i _), row_set relO rels i _ hil, List.length_set]
    refine r_end [3, 4] [.sealR 4] (hs := ?_) (hres := by (simp only [go_sem, ↓reduceIte, Nat.reduceEqDiff, Nat.reduceMul, Nat.reduceAdd, Nat.reduceSub, Nat.reduceLT, Nat.reduceGT, Nat.reduceLeDiff, Nat.reduceBEq, Int.reduceLT, Int.reduceLE, Int.reduceNe, Int.reduceEq, Int.reduceToNat, Int.reduceAdd, Int.reduceSub, Int.reduceMul, Int.reduceNeg, Nat.reducePow, Int.reducePow, Nat.reduceSubDiff, decide_true, decide_false, reduceCtorEq, or_self, or_false, false_or, or_true, true_or, if_false, gt_iff_lt, ge_iff_le, ne_eq, not_true_eq_false, not_false_eq_true, and_self, beq_self_eq_true, Bool.false_eq_true]; try (repeat (first | exact True.intro | exact Wk.refl _ | exact Wk.nilR _ _ _ | exact Wk.nil _ _ | exact Wk.dead _ | exact Wk.bT (by assumption) | exact Wk.bF (by assumption) | exact Wk.eqI (by omega) | exact WkS.refl _ | exact Wks.same _ | exact Wks.nil | exact WkS.nil | refine And.intro ?_ ?_ | refine Wk.aggs ?_ | refine Wk.tups ?_ | refine Wks.cons ?_ ?_ | refine WkS.cons (by first | exact fun _ => rfl | exact fun h => absurd h Bool.false_ne_true) ?_ ?_ ?_ | assumption | exact (fun h => h) | exact (fun h => absurd h Bool.false_ne_true) | intro _))))
    dsimp only [relO]
    (simp (disch := omega) only [go_sem, ↓reduceIte, Nat.reduceEqDiff, Nat.reduceMul, Nat.reduceAdd, Nat.reduceSub, Nat.reduceLT, Nat.reduceGT, Nat.reduceLeDiff, Nat.reduceBEq, Int.reduceLT, Int.reduceLE, Int.reduceNe, Int.reduceEq, Int.reduceToNat, Int.reduceAdd, Int.reduceSub, Int.reduceMul, Int.reduceNeg, Nat.reducePow, Int.reducePow, Nat.reduceSubDiff, decide_true, decide_false, reduceCtorEq, or_self, or_false, false_or, or_true, true_or, if_false, gt_iff_lt, ge_iff_le, ne_eq, not_true_eq_false, not_false_eq_true, and_self, beq_self_eq_true, Bool.false_eq_true, List.append_assoc]; exact WkS.refl _)
  rw [if_neg h5, if_neg h6, if_neg h7]
  (dsimp only [rollT, rollS]; rw [rowR_ne 5 0 hne, isE hne]; refine run ?_; exact r_end [3, 4] [.sealR 4] (hres := by (simp only [go_sem, ↓reduceIte, Nat.reduceEqDiff, Nat.reduceMul, Nat.reduceAdd, Nat.reduceSub, Nat.reduceLT, Nat.reduceGT, Nat.reduceLeDiff, Nat.reduceBEq, Int.reduceLT, Int.reduceLE, Int.reduceNe, Int.reduceEq, Int.reduceToNat, Int.reduceAdd, Int.reduceSub, Int.reduceMul, Int.reduceNeg, Nat.reducePow, Int.reducePow, Nat.reduceSubDiff, decide_true, decide_false, reduceCtorEq, or_self, or_false, false_or, or_true, true_or, if_false, gt_iff_lt, ge_iff_le, ne_eq, not_true_eq_false, not_false_eq_true, and_self, beq_self_eq_true, Bool.false_eq_true]; try (repeat (first | exact True.intro | exact Wk.refl _ | exact Wk.nilR _ _ _ | exact Wk.nil _ _ | exact Wk.dead _ | exact Wk.bT (by assumption) | exact Wk.bF (by assumption) | exact Wk.eqI (by omega) | exact WkS.refl _ | exact Wks.same _ | exact Wks.nil | exact WkS.nil | refine And.intro ?_ ?_ | refine Wk.aggs ?_ | refine Wk.tups ?_ | refine Wks.cons ?_ ?_ | refine WkS.cons (by first | exact fun _ => rfl | exact fun h => absurd h Bool.false_ne_true) ?_ ?_ ?_ | assumption | exact (fun h => h) | exact (fun h => absurd h Bool.false_ne_true) | intro _)))))

end Go.TL

/- Rolls: copies that are one's own, by the program. No conditions but those that are written. -/
namespace Go.TL
set_option linter.unusedSimpArgs false
open Go.Proofs Go.RowKit
attribute [local irreducible] wpOpsT wpT EndT Ex.seq Ex.block W

theorem impl_copyIntsO (k : Nat) (l : List Int) (hl : l.length ≤ 90000000) : CallsT Try.prog [] F.impl_copyInts [.sl false k l.length 1 (rowT i64C l)] (.ref 0 [] 0 l.length) [⟨1, true, rowT i64C l⟩] := by
  refine fnT C.impl_copyInts ?_
  refine run ?_
  refine r_app (enc := i64C) [] l (by simp only [List.length_nil]; omega) ?_
  rw [List.nil_append]
  refine run ?_
  exact r_end [1] []

theorem impl_copyRelO (k : Nat) (no size : Int) (dig : ByteArray) (ready : List Int) (state : Int) (hl : ready.length ≤ 90000000) : CallsT Try.prog [] F.impl_copyRel [.agg [.v (.int .i64 no), .v (.int .i64 size), .v (.string dig), .sl false k ready.length 1 (rowT i64C ready), .v (.int .i64 state)]] (.agg [.v (.int .i64 no), .v (.int .i64 size), .v (.string dig), .ref 0 [] 0 ready.length, .v (.int .i64 state)]) [⟨1, true, rowT i64C ready⟩] := by
  refine fnT C.impl_copyRel ?_
  refine runC ?_
  refine r_callp true (impl_copyIntsO 1 ready hl) ?_
  refine run ?_
  exact r_end [2] []

/-- A release, its row of nodes not nil. -/
def relW (x : RelV) : List T := [.v (.int .i64 x.no), .v (.int .i64 x.size), .v (.string x.dig), .sl true 0 x.ready.length 1 (rowT i64C x.ready), .v (.int .i64 x.state)]
instance : RowO relW relC 5 := ⟨fun _ => rfl, fun x => by simp [relW, allTs, allT, leafOwn, own_row], fun x => by simp only [relW, zns, zn, zn_row, relC], by decide⟩
attribute [go_sem] relW
theorem Wk.po {α : Type} {enc : α → List T} (sz : Nat) (l : List α) : Wk (.sl true 0 l.length sz (rowT enc l)) (ownC l.length sz (rowT enc l)) := by
  cases l with
  | nil => rw [show ownC ([] : List α).length sz (rowT enc []) = .sl false 0 0 sz [] from ownC_nil _ _]; exact .zero _ _ _
  | cons x l => rw [ownC_pos _ _ (by simp)]; exact .refl _
theorem wk_rel1 (x : RelV) : Wks (relW x) (relO x) := .cons (.refl _) (.cons (.refl _) (.cons (.refl _) (.cons (Wk.po _ _) (.cons (.refl _) .nil))))
theorem wk_rels : ∀ l : List RelV, Wks (rowT relW l) (rowT relO l)
  | [] => .nil
  | x :: l => by rw [rowT_cons, rowT_cons]; exact Wks.app (wk_rel1 x) (wk_rels l)

def copyH (of : Int) (rels : List RelV) (act : Int) (order : List Int) : Nat → Store
  | 0 => [⟨1, true, rowT i64C order⟩, ⟨0, true, [.v (.int .i64 of), .v (.slice none 0 0), .v (.int .i64 act), .ref 2 [] 0 order.length]⟩]
  | i + 1 => [⟨1, true, rowT i64C order⟩, ⟨0, true, [.v (.int .i64 of), .ref 4 [] 0 (i + 1), .v (.int .i64 act), .ref 2 [] 0 order.length]⟩, ⟨5, true, rowT relW (rels.take (i + 1))⟩]

set_option linter.unusedSimpArgs false in
set_option maxHeartbeats 4000000 in
theorem impl_copyRoll (k0 k1 : Nat) (of : Int) (rels : List RelV) (act : Int) (order : List Int) (hpre : totRoll rels order ≤ 1048576) : CallsT Try.prog [] F.impl_copyRoll [.agg [.v (.int .i64 of), .sl false k0 rels.length 5 (rowT relC rels), .v (.int .i64 act), .sl false k1 order.length 1 (rowT i64C order)]] (.agg [.v (.int .i64 of), nilR 0 rels, .v (.int .i64 act), .ref 1 [] 0 order.length]) [⟨5, !rels.isEmpty, rowT relW rels⟩, ⟨1, true, rowT i64C order⟩] := by
  have hlr := rels_len hpre
  have hlo : order.length ≤ 1048576 := by
    have h3 := sum_nn totRelV_nn rels
    have h6 : totIS order = order.length := rfl
    unfold totRoll totRelS at hpre
    omega
  refine fnT C.impl_copyRoll ?_
  refine runS ?_
  refine r_any [(1, .ptr 0 [] 0), (2, .ptr 1 [] 0), (3, .ptr 3 [] 0)] [⟨0, true, [.v (.int .i64 of), .sl false k0 rels.length 5 (rowT relC rels), .v (.int .i64 act), .sl false k1 order.length 1 (rowT i64C order)]⟩, ⟨0, true, [.v (.int .i64 0), .v (.slice none 0 0), .v (.int .i64 0), .v (.slice none 0 0)]⟩, ⟨1, true, rowT i64C order⟩, ⟨0, true, [.v (.int .i64 of), .v (.slice none 0 0), .v (.int .i64 act), .ref 2 [] 0 order.length]⟩] ?_ ?_
  rotate_left
  · refine a_swap 7 ?_
    refine a_two 6 ?_ ?_
    · refine any_lin ?_
      refine runC ?_
      refine r_callp true (impl_copyIntsO 1 order (by omega)) ?_
      refine run ?_
      exact ⟨[0, 1, 2, 3], [], Gc.of⟩
    · refine any_lin ?_
      refine runC ?_
      refine r_callp true (impl_copyIntsO 1 order (by omega)) ?_
      refine run ?_
      exact ⟨[0, 1, 3, 2], [], Gc.of⟩
  refine run ?_
  refine r_for rels.length (fun i => [(2, .ptr 1 [] 0), (3, .ptr 3 [] 0), (15, .sl false k0 rels.length 5 (rowT relC rels)), (16, .v (.int .i64 rels.length)), (17, .v (.int .i64 i))]) (fun i => [⟨0, true, [.v (.int .i64 of), .sl false k0 rels.length 5 (rowT relC rels), .v (.int .i64 act), .sl false k1 order.length 1 (rowT i64C order)]⟩, ⟨0, true, [.v (.int .i64 0), .v (.slice none 0 0), .v (.int .i64 0), .v (.slice none 0 0)]⟩] ++ copyH of rels act order i) (fun _ => True) [0, 1, 2, 3] [] trivial Gc.of (fun i hi _ => ?_) (fun _ => ?_)
  · have hrl := ready_len hpre (x := (i : Int)) (by omega) (by omega)
    have hc : ∀ q, CallsT Try.prog [] F.impl_copyRel [.agg [.v (.int .i64 ((nth rels (i : Nat)).no)), .v (.int .i64 ((nth rels (i : Nat)).size)), .v (.string ((nth rels (i : Nat)).dig)), .sl false q (nth rels (i : Nat)).ready.length 1 (rowT i64C (nth rels (i : Nat)).ready), .v (.int .i64 ((nth rels (i : Nat)).state))]] (.agg [.v (.int .i64 ((nth rels (i : Nat)).no)), .v (.int .i64 ((nth rels (i : Nat)).size)), .v (.string ((nth rels (i : Nat)).dig)), .ref 0 [] 0 (nth rels (i : Nat)).ready.length, .v (.int .i64 ((nth rels (i : Nat)).state))]) [⟨1, true, rowT i64C (nth rels (i : Nat)).ready⟩] := fun q => impl_copyRelO q _ _ _ _ _ (by have := hrl.1; omega)
    cases i with
    | zero =>
      dsimp only [copyH, List.cons_append, List.nil_append]
      refine runC ?_
      refine r_callp true (hc 1) ?_
      refine run ?_
      refine r_apz ?_
      refine run ?_
      refine ⟨[0, 1, 2, 3, 8], [.nestP 7 [] 3 5], Gc.of (hs := ?_), trivial⟩
      rw [take_nth hi, rowT_append, rowT_1]
      (simp (disch := omega) only [go_sem, ↓reduceIte, Nat.reduceEqDiff, Nat.reduceMul, Nat.reduceAdd, Nat.reduceSub, Nat.reduceLT, Nat.reduceGT, Nat.reduceLeDiff, Nat.reduceBEq, Int.reduceLT, Int.reduceLE, Int.reduceNe, Int.reduceEq, Int.reduceToNat, Int.reduceAdd, Int.reduceSub, Int.reduceMul, Int.reduceNeg, Nat.reducePow, Int.reducePow, Nat.reduceSubDiff, decide_true, decide_false, reduceCtorEq, or_self, or_false, false_or, or_true, true_or, if_false, gt_iff_lt, ge_iff_le, ne_eq, not_true_eq_false, not_false_eq_true, and_self, beq_self_eq_true, Bool.false_eq_true, List.append_assoc]; exact WkS.refl _)
    | succ i =>
      dsimp only [copyH, List.cons_append, List.nil_append]
      have ht : (rels.take (i + 1)).length = i + 1 := by rw [List.length_take]; omega
      refine runC ?_
      refine r_callp true (hc 1) ?_
      refine run ?_
      refine r_apw ?_
      refine run ?_
      refine ⟨[0, 1, 2, 3, 9], [.nestP 8 [] ((i + 1) * 5 + 3) 6], Gc.of (hs := ?_), trivial⟩
      rw [take_nth hi, rowT_append, rowT_1]
      (simp (disch := omega) only [go_sem, ↓reduceIte, Nat.reduceEqDiff, Nat.reduceMul, Nat.reduceAdd, Nat.reduceSub, Nat.reduceLT, Nat.reduceGT, Nat.reduceLeDiff, Nat.reduceBEq, Int.reduceLT, Int.reduceLE, Int.reduceNe, Int.reduceEq, Int.reduceToNat, Int.reduceAdd, Int.reduceSub, Int.reduceMul, Int.reduceNeg, Nat.reducePow, Int.reducePow, Nat.reduceSubDiff, decide_true, decide_false, reduceCtorEq, or_self, or_false, false_or, or_true, true_or, if_false, gt_iff_lt, ge_iff_le, ne_eq, not_true_eq_false, not_false_eq_true, and_self, beq_self_eq_true, Bool.false_eq_true, List.append_assoc]; exact WkS.refl _)
  · generalize hm : rels.length = m
    cases m with
    | zero =>
      have hn := List.eq_nil_of_length_eq_zero hm
      subst hn
      dsimp only [copyH, List.cons_append, List.nil_append]
      refine run ?_
      exact r_end [3, 2] []
    | succ m =>
      dsimp only [copyH, List.cons_append, List.nil_append]
      have hne : rels ≠ [] := by intro h; rw [h] at hm; simp at hm
      rw [nilR_ne 0 hne, isE hne]
      rw [← hm, List.take_length]
      refine run ?_
      exact r_end [4, 2] []

end Go.TL
