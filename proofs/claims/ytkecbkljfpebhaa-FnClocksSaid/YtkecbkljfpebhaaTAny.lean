/- Drawn regions with more than two orders: listings changed step by step. No conditions. -/
import Derived.Test.YtkecbkljfpebhaaTDr3
namespace Go.TL
set_option linter.unusedSimpArgs false
open Go.RowKit

/-- Two neighbours have changed their places. -/
def swap0 (l : List Oper) (a : Nat) : List Oper := (List.range l.length).map fun i => match l[tr a i]? with
  | some o => trO a false o
  | none => default

theorem sim0 {l : List Oper} {a : Nat} (x c : Nat) (ha : a + 1 < l.length) : SimOk l.toArray (swap0 l a).toArray (tr a) x c := by
  have hlt : ∀ i, i < l.length → tr a i < l.length := fun i hi => by unfold tr; (repeat' split) <;> omega
  have at_ : ∀ i (o : Oper), l[i]? = some o → (swap0 l a).toArray[tr a i]? = some (trO a false o) := by
    intro i o ho
    have hi : i < l.length := (List.getElem?_eq_some_iff.1 ho).1
    rw [List.getElem?_toArray, swap0, List.getElem?_map, List.getElem?_range (hlt i hi), Option.map_some, tr_tr, ho]
  refine ⟨by simp [swap0], fun i hi => ⟨by simpa using hlt i (by simpa using hi), tr_tr a i⟩, fun i hi => by simp only [List.size_toArray] at hi ⊢; unfold tr; (repeat' split) <;> omega, fun i o ho => ?_⟩
  rw [List.getElem?_toArray] at ho
  have hi : i < l.length := (List.getElem?_eq_some_iff.1 ho).1
  have hy : ∀ tm j, yielded (swap0 l a).toArray tm (tr a j) = yielded l.toArray tm j := by
    intro tm j
    unfold yielded
    rcases Nat.lt_or_ge j l.length with hj | hj
    · rw [at_ j l[j] (List.getElem?_eq_getElem hj), List.getElem?_toArray, List.getElem?_eq_getElem hj]
      rfl
    · have : tr a j = j := by unfold tr; (repeat' split) <;> omega
      rw [this, List.getElem?_toArray, List.getElem?_toArray, List.getElem?_eq_none (by simpa [swap0] using hj), List.getElem?_eq_none hj]
  have hd : tr a i = a + 1 ↔ i = a := by unfold tr; (repeat' split) <;> omega
  refine ⟨(trO a false o).after, (trO a false o).guard, at_ i o ho, fun tm => ?_, fun k hk hb => ?_, fun e0 he hb => ?_⟩
  · unfold Region.wanted trO
    dsimp only
    cases hg : o.guard with
    | none => rfl
    | some g =>
      obtain ⟨j, w⟩ := g
      show (yielded (swap0 l a).toArray tm (tr a j) == some w) = _
      rw [hy]
  · have key : k ∈ o.after.map (fun e => ({ e with on := tr a e.on } : Edge)) → ∃ e0 ∈ o.after, Region.binds .any e0 = true ∧ k.on = tr a e0.on := by
      intro hm
      obtain ⟨e0, he0, rfl⟩ := Array.mem_map.1 hm
      exact ⟨e0, he0, hb, rfl⟩
    unfold trO at hk
    dsimp only at hk
    split at hk
    · rename_i h1
      rw [Array.mem_push] at hk
      rcases hk with hk | rfl
      · exact .inl (key hk)
      · exact absurd h1 Bool.false_ne_true
    · exact .inl (key hk)
  · refine ⟨{ e0 with on := tr a e0.on }, ?_, hb, rfl⟩
    have hm : ({ e0 with on := tr a e0.on } : Edge) ∈ o.after.map (fun e => ({ e with on := tr a e.on } : Edge)) := Array.mem_map.2 ⟨e0, he, rfl⟩
    unfold trO
    dsimp only
    split
    · exact Array.mem_push_of_mem _ hm
    · exact hm

/-- All orders of a region come to the same. -/
def AnyOk (P : Program) (M n : Nat) (l : List Oper) (Q : Ex → (Nat → T) → Store → Prop) (fr : Nat → T) (S : Store) : Prop :=
  ∀ (E E0 : Env) (w0 : World) (act : Act), E0.S.length = M → E.S = S → Evo E0 E → Inv E w0 → FR E n fr act →
    wpAny P .any l.toArray (Post E0 w0 n act.defers Q) l.toArray.size (Array.replicate l.toArray.size false) act { E.w with drawn := E.w.drawn + 1 }

section
variable {P : Program} {M n : Nat} {l : List Oper} {Q : Ex → (Nat → T) → Store → Prop} {fr : Nat → T} {S : Store}
theorem rel_any (m : Nat) (σ : Nat → Nat) (hσ : ∀ i, i < m → σ i < m) : RelL m σ (Array.replicate m false) (Array.replicate m false) := by
  refine ⟨by simp, by simp, fun i hi d => ?_⟩
  rw [Array.getD_eq_getD_getElem?, Array.getD_eq_getD_getElem?, Array.getElem?_replicate, Array.getElem?_replicate, if_pos hi, if_pos (hσ i hi)]
/-- A listing that is walked as it stands. -/
theorem any_lin {S2 : Store} {fr2 : Nat → T} (h : wpOpsT P l.toArray n (.any 0 [] []) l (fun fr' S' => ∃ keep fz, Gc M S' fr' S2 fr2 keep fz) fr S) (hok : drawOk l.toArray = true := by decide +kernel) :
    AnyOk P M n l (fun ex fr' S' => ex = .normal ∧ ∃ keep fz, Gc M S' fr' S2 fr2 keep fz) fr S := by
  intro E E0 w0 act hM hS hev hI hF
  have hw' : wpOpsT P l.toArray n (.any 0 [] []) l (fun fr' S' => (Ex.normal = Ex.normal) ∧ ∃ keep fz, Gc M S' fr' S2 fr2 keep fz) fr S := wpOpsT_imp (fun fr' S' h => ⟨rfl, h⟩) _ _ _ _ h
  exact draw_start (Q := fun ex fr' S' => ex = .normal ∧ ∃ keep fz, Gc M S' fr' S2 fr2 keep fz) hok hw' hS hev hI hF
theorem any_two' (a : Nat) (hp : (l.zipIdx.all fun o => o.2 == a || o.2 == a + 1 || plainOp o.1.op) = true) (ha : a + 1 < l.length) (hA : AnyOk P M n (addA l a) Q fr S) (hB : AnyOk P M n (swapB l a) Q fr S) : AnyOk P M n l Q fr S := by
  intro E E0 w0 act hM hS hev hI hF
  have h1 := hA E E0 w0 act hM hS hev hI hF
  have h2 := hB E E0 w0 act hM hS hev hI hF
  rw [(simA (l := l) (a := a)).size] at h1
  rw [(simB (l := l) ha).size] at h2
  have hB' : SimOk l.toArray (swapB l a).toArray (tr a) a (tr a (a + 1)) := by
    have : tr a (a + 1) = a := by unfold tr; (repeat' split) <;> omega
    rw [this]; exact simB ha
  exact wpAny_two (x := a) (y := a + 1) (simA (l := l) (a := a)) hB' (by omega) (by simp; omega) (by simpa using ha) (fun i o h h1 h2 => by
    rw [List.getElem?_toArray] at h
    have hm : (o, i) ∈ l.zipIdx := List.mem_of_getElem? (i := i) (by rw [List.getElem?_zipIdx, h]; simp)
    have := List.all_eq_true.1 hp _ hm
    simpa [h1, h2] using this) _ _ _ _ _ _ (rel_any _ _root_.id fun i hi => hi) (rel_any _ (tr a) fun i hi => ((simB (l := l) ha).inv i hi).1) h1 h2
theorem any_swap' (a : Nat) (ha : a + 1 < l.length) (hA : AnyOk P M n (swap0 l a) Q fr S) : AnyOk P M n l Q fr S := by
  intro E E0 w0 act hM hS hev hI hF
  have h1 := hA E E0 w0 act hM hS hev hI hF
  rw [(sim0 (l := l) 0 0 ha).size] at h1
  exact wpAny_sim0 (sim0 (l := l) l.length 0 ha) (by simp) _ _ _ _ _ (rel_any l.toArray.size (tr a) fun i hi => ((sim0 (l := l) 0 0 ha).inv i hi).1) h1
/-- The region itself. -/
theorem W.of_any {id : Nat} (fr2 : Nat → T) (S2 : Store) (hm : P.follows .mixedOrders = true) (hA : AnyOk P M n l (fun ex fr' S' => ex = .normal ∧ ∃ keep fz, Gc M S' fr' S2 fr2 keep fz) fr S) (hQ : Q .normal fr2 S2) : W P M n (.region id l.toArray true) Q fr S := by
  have post : ∀ E0 : Env, E0.S.length = M → ∀ w0 d e a' w', Post E0 w0 n d (fun ex fr' S' => ex = .normal ∧ ∃ keep fz, Gc M S' fr' S2 fr2 keep fz) e a' w' → Post E0 w0 n d Q e a' w' := by
    rintro E0 hM w0 d e a' w' ⟨ex, fr', E', he, ⟨rfl, keep, fz, hg⟩, rfl, hI, hev, hF, hd⟩
    obtain ⟨E2, h1, h2, h3, h4, h5, _⟩ := hg.frees hI hM hev hF
    exact ⟨.normal, fr2, E2, he, by rw [h2]; exact hQ, h1, h3, h4, h5, hd⟩
  intro E act E0 w0 hM hS hev hI hF
  refine wp_mono ?_ (post E0 hM w0 act.defers)
  refine wp_region_any hm ?_
  exact hA E E0 w0 act hM hS hev hI hF

/-- A drawn region whose orders are gone through one by one: the frame and the roots behind it. -/
theorem r_any {id : Nat} (lf : List (Nat × T)) (S2 : Store) (hQ : Q .normal (frm lf) S2) (hA : AnyOk P M n l (fun ex fr' S' => ex = .normal ∧ ∃ keep fz, Gc M S' fr' S2 (frm lf) keep fz) fr S) (hm : P.follows .mixedOrders = true := by kernel_rfl) : wpT P M n (.region id l.toArray true) Q fr S :=
  W.of_any (frm lf) S2 hm hA hQ
/-- Of two neighbours without an order: the first first, and the second first. -/
theorem a_two {lA lB : List Oper} (a : Nat) (hA : AnyOk P M n lA Q fr S) (hB : AnyOk P M n lB Q fr S) (hlA : addA l a = lA := by simp only [addA, swapB, trO, tr, edgeC, List.length_cons, List.length_nil, List.range, List.range.loop, Nat.reduceAdd, Nat.reduceEqDiff, Nat.reduceSub, List.map_cons, List.map_nil, List.getElem?_cons_zero, List.getElem?_cons_succ, reduceCtorEq, reduceIte, List.push_toArray, List.map_toArray, Option.map_some, Option.map_none, List.append_nil, List.nil_append, List.cons_append, decide_true, decide_false, Bool.false_eq_true, Nat.zero_add, Nat.reduceBEq, Nat.zero_ne_add_one, Nat.add_one_ne_zero, Nat.add_right_cancel_iff, Nat.succ_ne_self, Nat.left_eq_add, Nat.add_eq_left]; exact rfl) (hlB : swapB l a = lB := by simp only [addA, swapB, trO, tr, edgeC, List.length_cons, List.length_nil, List.range, List.range.loop, Nat.reduceAdd, Nat.reduceEqDiff, Nat.reduceSub, List.map_cons, List.map_nil, List.getElem?_cons_zero, List.getElem?_cons_succ, reduceCtorEq, reduceIte, List.push_toArray, List.map_toArray, Option.map_some, Option.map_none, List.append_nil, List.nil_append, List.cons_append, decide_true, decide_false, Bool.false_eq_true, Nat.zero_add, Nat.reduceBEq, Nat.zero_ne_add_one, Nat.add_one_ne_zero, Nat.add_right_cancel_iff, Nat.succ_ne_self, Nat.left_eq_add, Nat.add_eq_left]; exact rfl)
    (ha : Nat.blt (a + 1) l.length = true := by rfl) (hp : (l.zipIdx.all fun o => o.2 == a || o.2 == a + 1 || plainOp o.1.op) = true := by decide +kernel) : AnyOk P M n l Q fr S := by
  subst hlA
  subst hlB
  exact any_two' a hp (by simpa [Nat.blt_eq] using ha) hA hB
/-- Two neighbours change their places in the listing. -/
theorem a_swap {lA : List Oper} (a : Nat) (hA : AnyOk P M n lA Q fr S) (hlA : swap0 l a = lA := by simp only [swap0, trO, tr, edgeC, List.length_cons, List.length_nil, List.range, List.range.loop, Nat.reduceAdd, Nat.reduceEqDiff, Nat.reduceSub, List.map_cons, List.map_nil, List.getElem?_cons_zero, List.getElem?_cons_succ, reduceCtorEq, reduceIte, List.push_toArray, List.map_toArray, Option.map_some, Option.map_none, List.append_nil, List.nil_append, List.cons_append, decide_true, decide_false, Bool.false_eq_true, Nat.zero_add, Nat.reduceBEq, Nat.zero_ne_add_one, Nat.add_one_ne_zero, Nat.add_right_cancel_iff, Nat.succ_ne_self, Nat.left_eq_add, Nat.add_eq_left]; exact rfl)
    (ha : Nat.blt (a + 1) l.length = true := by rfl) : AnyOk P M n l Q fr S := by
  subst hlA
  exact any_swap' a (by simpa [Nat.blt_eq] using ha) hA
end

end Go.TL
