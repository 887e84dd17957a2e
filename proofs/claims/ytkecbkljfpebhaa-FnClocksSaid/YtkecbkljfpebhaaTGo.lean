/- The walk: conditions, rows, loops, ends. No conditions. -/
import Derived.Test.YtkecbkljfpebhaaTStep2
namespace Go.TL
set_option linter.unusedSimpArgs false
open Go.RowKit

section
variable {P : Program} {M n : Nat} {fr : Nat → T} {S : Store} {Q : Ex → (Nat → T) → Store → Prop}
theorem r_ifd {c : Operand} {a b : Code} {p : Prop} [Decidable p] (h1 : p → wpT P M n a Q fr S) (h2 : ¬ p → wpT P M n b Q fr S) (hc : TL.ev fr c = .v (.bool (decide p)) := by (first | (simp only [go_sem, ↓reduceIte, Nat.reduceEqDiff, Nat.reduceMul, Nat.reduceAdd, Nat.reduceSub, Nat.reduceLT, Nat.reduceGT, Nat.reduceLeDiff, Nat.reduceBEq, Int.reduceLT, Int.reduceLE, Int.reduceNe, Int.reduceEq, Int.reduceToNat, Int.reduceAdd, Int.reduceSub, Int.reduceMul, Int.reduceNeg, Nat.reducePow, Int.reducePow, Nat.reduceSubDiff, decide_true, decide_false, reduceCtorEq, or_self, or_false, false_or, or_true, true_or, if_false, gt_iff_lt, ge_iff_le, ne_eq, not_true_eq_false, not_false_eq_true, and_self, beq_self_eq_true, Bool.false_eq_true] <;> with_reducible rfl) | with_reducible rfl)) : wpT P M n (.cond c a b) Q fr S :=
  r_cond _ hc (fun h => h1 (of_decide_eq_true h)) (fun h => h2 (of_decide_eq_false h))
theorem r_ct {c : Operand} {a b : Code} {p : Prop} [Decidable p] (h : wpT P M n a Q fr S) (hc : TL.ev fr c = .v (.bool (decide p)) := by simp only [go_sem, ↓reduceIte, Nat.reduceEqDiff, Nat.reduceMul, Nat.reduceAdd, Nat.reduceSub, Nat.reduceLT, Nat.reduceGT, Nat.reduceLeDiff, Nat.reduceBEq, Int.reduceLT, Int.reduceLE, Int.reduceNe, Int.reduceEq, Int.reduceToNat, Int.reduceAdd, Int.reduceSub, Int.reduceMul, Int.reduceNeg, Nat.reducePow, Int.reducePow, Nat.reduceSubDiff, decide_true, decide_false, reduceCtorEq, or_self, or_false, false_or, or_true, true_or, if_false, gt_iff_lt, ge_iff_le, ne_eq, not_true_eq_false, not_false_eq_true, and_self, beq_self_eq_true, Bool.false_eq_true]; with_reducible rfl) (hp : p := by first | omega | exact True.intro) : wpT P M n (.cond c a b) Q fr S := r_ifd (fun _ => h) (fun k => absurd hp k) hc
theorem r_cf {c : Operand} {a b : Code} {p : Prop} [Decidable p] (h : wpT P M n b Q fr S) (hc : TL.ev fr c = .v (.bool (decide p)) := by simp only [go_sem, ↓reduceIte, Nat.reduceEqDiff, Nat.reduceMul, Nat.reduceAdd, Nat.reduceSub, Nat.reduceLT, Nat.reduceGT, Nat.reduceLeDiff, Nat.reduceBEq, Int.reduceLT, Int.reduceLE, Int.reduceNe, Int.reduceEq, Int.reduceToNat, Int.reduceAdd, Int.reduceSub, Int.reduceMul, Int.reduceNeg, Nat.reducePow, Int.reducePow, Nat.reduceSubDiff, decide_true, decide_false, reduceCtorEq, or_self, or_false, false_or, or_true, true_or, if_false, gt_iff_lt, ge_iff_le, ne_eq, not_true_eq_false, not_false_eq_true, and_self, beq_self_eq_true, Bool.false_eq_true]; with_reducible rfl) (hp : ¬ p := by omega) : wpT P M n (.cond c a b) Q fr S := r_ifd (fun k => absurd k hp) (fun _ => h) hc
theorem r_cT {c : Operand} {a b : Code} (h : wpT P M n a Q fr S) (hc : TL.ev fr c = .v (.bool true) := by (simp only [go_sem, ↓reduceIte, Nat.reduceEqDiff, Nat.reduceMul, Nat.reduceAdd, Nat.reduceSub, Nat.reduceLT, Nat.reduceGT, Nat.reduceLeDiff, Nat.reduceBEq, Int.reduceLT, Int.reduceLE, Int.reduceNe, Int.reduceEq, Int.reduceToNat, Int.reduceAdd, Int.reduceSub, Int.reduceMul, Int.reduceNeg, Nat.reducePow, Int.reducePow, Nat.reduceSubDiff, decide_true, decide_false, reduceCtorEq, or_self, or_false, false_or, or_true, true_or, if_false, gt_iff_lt, ge_iff_le, ne_eq, not_true_eq_false, not_false_eq_true, and_self, beq_self_eq_true, Bool.false_eq_true] <;> fail)) : wpT P M n (.cond c a b) Q fr S := r_cond true hc (fun _ => h) (fun h => by cases h)
theorem r_cF {c : Operand} {a b : Code} (h : wpT P M n b Q fr S) (hc : TL.ev fr c = .v (.bool false) := by (simp only [go_sem, ↓reduceIte, Nat.reduceEqDiff, Nat.reduceMul, Nat.reduceAdd, Nat.reduceSub, Nat.reduceLT, Nat.reduceGT, Nat.reduceLeDiff, Nat.reduceBEq, Int.reduceLT, Int.reduceLE, Int.reduceNe, Int.reduceEq, Int.reduceToNat, Int.reduceAdd, Int.reduceSub, Int.reduceMul, Int.reduceNeg, Nat.reducePow, Int.reducePow, Nat.reduceSubDiff, decide_true, decide_false, reduceCtorEq, or_self, or_false, false_or, or_true, true_or, if_false, gt_iff_lt, ge_iff_le, ne_eq, not_true_eq_false, not_false_eq_true, and_self, beq_self_eq_true, Bool.false_eq_true] <;> fail)) : wpT P M n (.cond c a b) Q fr S := r_cond false hc (fun h => by cases h) (fun _ => h)
end

theorem Wk.bT {p : Prop} [Decidable p] (h : p) : Wk (.v (.bool true)) (.v (.bool (decide p))) := by rw [decide_eq_true h]; exact .refl _
theorem Wk.bF {p : Prop} [Decidable p] (h : ¬ p) : Wk (.v (.bool false)) (.v (.bool (decide p))) := by rw [decide_eq_false h]; exact .refl _
theorem Wk.eqI {k : IntKind} {a b : Int} (h : a = b) : Wk (.v (.int k a)) (.v (.int k b)) := by subst h; exact .refl _
theorem Wk.bI {p q : Prop} [Decidable p] [Decidable q] (h : p ↔ q) : Wk (.v (.bool (decide p))) (.v (.bool (decide q))) := by
  rw [show decide p = decide q by by_cases hp : p <;> simp_all]; exact .refl _
/-- A frame, told by a list; all else is dead. -/
def frm : List (Nat × T) → Nat → T
  | [], _ => .dead
  | (i, t) :: l, j => if j = i then t else frm l j
@[go_sem ↓] theorem frm_nil (j : Nat) : frm [] j = .dead := of_eq_true (eq_self _)
@[go_sem ↓] theorem frm_cons (i : Nat) (t : T) (l : List (Nat × T)) (j : Nat) : frm ((i, t) :: l) j = if j = i then t else frm l j := of_eq_true (eq_self _)

def frmOk (keep : List Nat) (fz : List Gh) (S : Store) (fr : Nat → T) : List (Nat × T) → Prop
  | [] => True
  | (i, t) :: l => Wk (gcT keep (fzAllT fz S (fr i))) t ∧ frmOk keep fz S fr l

theorem frm_frame {keep : List Nat} {fz : List Gh} {S : Store} {fr : Nat → T} : ∀ {l : List (Nat × T)}, frmOk keep fz S fr l → ∀ j, Wk (gcT keep (fzAllT fz S (fr j))) (frm l j)
  | [], _, j => .dead _
  | (i, t) :: l, h, j => by
    by_cases e : j = i
    · subst e; simp only [frm, if_true]; exact h.1
    · simp only [frm, if_neg e]; exact frm_frame h.2 j

section
variable {P : Program} {M n : Nat} {fr : Nat → T} {S : Store} {Q : Ex → (Nat → T) → Store → Prop}

theorem Gc.of {l : List (Nat × T)} {S2 : Store} {keep : List Nat} {fz : List Gh} (hf : frmOk keep fz S fr l := by (simp only [go_sem, ↓reduceIte, Nat.reduceEqDiff, Nat.reduceMul, Nat.reduceAdd, Nat.reduceSub, Nat.reduceLT, Nat.reduceGT, Nat.reduceLeDiff, Nat.reduceBEq, Int.reduceLT, Int.reduceLE, Int.reduceNe, Int.reduceEq, Int.reduceToNat, Int.reduceAdd, Int.reduceSub, Int.reduceMul, Int.reduceNeg, Nat.reducePow, Int.reducePow, Nat.reduceSubDiff, decide_true, decide_false, reduceCtorEq, or_self, or_false, false_or, or_true, true_or, if_false, gt_iff_lt, ge_iff_le, ne_eq, not_true_eq_false, not_false_eq_true, and_self, beq_self_eq_true, Bool.false_eq_true]; try (repeat (first | exact True.intro | exact Wk.refl _ | exact Wk.nil _ _ | exact Wk.dead _ | exact Wk.bT (by assumption) | exact Wk.bF (by assumption) | exact Wk.eqI (by omega) | exact WkS.refl _ | exact Wks.same _ | exact Wks.nil | exact WkS.nil | refine And.intro ?_ ?_ | refine Wk.aggs ?_ | refine Wk.tups ?_ | refine Wks.cons ?_ ?_ | refine WkS.cons (by first | exact fun _ => rfl | exact fun h => absurd h Bool.false_ne_true) ?_ ?_ ?_ | assumption | exact (fun h => h) | exact (fun h => absurd h Bool.false_ne_true) | intro _)))) (hs : WkS (gcS keep (fzAllS fz S)) S2 := by (simp only [go_sem, ↓reduceIte, Nat.reduceEqDiff, Nat.reduceMul, Nat.reduceAdd, Nat.reduceSub, Nat.reduceLT, Nat.reduceGT, Nat.reduceLeDiff, Nat.reduceBEq, Int.reduceLT, Int.reduceLE, Int.reduceNe, Int.reduceEq, Int.reduceToNat, Int.reduceAdd, Int.reduceSub, Int.reduceMul, Int.reduceNeg, Nat.reducePow, Int.reducePow, Nat.reduceSubDiff, decide_true, decide_false, reduceCtorEq, or_self, or_false, false_or, or_true, true_or, if_false, gt_iff_lt, ge_iff_le, ne_eq, not_true_eq_false, not_false_eq_true, and_self, beq_self_eq_true, Bool.false_eq_true]; try (repeat (first | exact True.intro | exact Wk.refl _ | exact Wk.nil _ _ | exact Wk.dead _ | exact Wk.bT (by assumption) | exact Wk.bF (by assumption) | exact Wk.eqI (by omega) | exact WkS.refl _ | exact Wks.same _ | exact Wks.nil | exact WkS.nil | refine And.intro ?_ ?_ | refine Wk.aggs ?_ | refine Wk.tups ?_ | refine Wks.cons ?_ ?_ | refine WkS.cons (by first | exact fun _ => rfl | exact fun h => absurd h Bool.false_ne_true) ?_ ?_ ?_ | assumption | exact (fun h => h) | exact (fun h => absurd h Bool.false_ne_true) | intro _)))) (hn : keep.Nodup := by decide) (hl : (keep.all fun r => Nat.blt r (S.length + ghN fz)) = true := by rfl)
    (hm : ∀ i, i < M → keep[i]? = some i := by intro i hi; first | (exact absurd hi (Nat.not_lt_zero _)) | (revert i; decide) | (simp only [List.length_cons, List.length_nil, Nat.zero_add, Nat.reduceAdd] at hi; revert i; decide)) : Gc M S fr S2 (frm l) keep fz :=
  ⟨hn, fun r hr => by have := List.all_eq_true.1 hl r hr; simpa [Nat.blt_eq] using this, hm, hs, frm_frame hf⟩

theorem wpOpsT_mono {ops : Array Oper} {K K' : (Nat → T) → Store → Prop} (hk : ∀ fr S, K fr S → K' fr S) : ∀ (os : List Oper) (pu : Dr) (fr : Nat → T) (S : Store), wpOpsT P ops n pu os K fr S → wpOpsT P ops n pu os K' fr S
  | [], _, fr, S, h => hk fr S h
  | _ :: os, _, _, _, h => by
    obtain ⟨t, S', pu', h1, h2, h3⟩ := h
    exact ⟨t, S', pu', h1, h2, wpOpsT_mono hk os pu' _ S' h3⟩

theorem wpT_mono (c : Code) {Q Q' : Ex → (Nat → T) → Store → Prop} {fr : Nat → T} {S : Store} (h : wpT P M n c Q fr S) (hq : ∀ e fr S, Q e fr S → Q' e fr S) : wpT P M n c Q' fr S := W.mono h hq

/-- A loop with states: what the frame is, what the roots are, what holds, what falls. -/
theorem r_loop_of {c : Code} {σ : Type} (F : σ → List (Nat × T)) (G : σ → Store) (inv : σ → Prop) (μ : σ → Nat) (x0 : σ) (keep : List Nat) (fz : List Gh) (h0 : inv x0) (hg : Gc M S fr (G x0) (frm (F x0)) keep fz)
    (hr : ∀ x, inv x → wpT P M n c (Ex.seq (fun fr' S' => ∃ x' keep fz, Gc M S' fr' (G x') (frm (F x')) keep fz ∧ μ x' < μ x ∧ inv x') Q) (frm (F x)) (G x)) : wpT P M n (.loop c) Q fr S := by
  refine W.loop ⟨fun k fr S => ∃ x, fr = frm (F x) ∧ S = G x ∧ inv x ∧ μ x = k, μ x0, frm (F x0), G x0, keep, fz, hg, ⟨x0, rfl, rfl, h0, rfl⟩, ?_⟩
  rintro k fr S ⟨x, rfl, rfl, hx, rfl⟩
  refine W.mono (W.of (hr x hx)) fun e fr' S' hq => ?_
  cases e with
  | normal =>
    obtain ⟨x', keep, fz, h1, h2, h3⟩ := hq
    exact ⟨μ x', _, _, keep, fz, h1, h2, x', rfl, rfl, h3, rfl⟩
  | exit i => exact hq
  | ret => exact hq

/-- A loop over the numbers below m. -/
theorem r_for {c : Code} (m : Nat) (F : Nat → List (Nat × T)) (G : Nat → Store) (inv : Nat → Prop) (keep : List Nat) (fz : List Gh) (h0 : inv 0) (hg : Gc M S fr (G 0) (frm (F 0)) keep fz)
    (hr : ∀ i, i < m → inv i → wpT P M n c (Ex.seq (fun fr' S' => ∃ keep fz, Gc M S' fr' (G (i + 1)) (frm (F (i + 1))) keep fz ∧ inv (i + 1)) Q) (frm (F i)) (G i))
    (hx : inv m → wpT P M n c (Ex.seq (fun _ _ => False) Q) (frm (F m)) (G m)) : wpT P M n (.loop c) Q fr S := by
  refine r_loop_of F G (fun i => i ≤ m ∧ inv i) (fun i => m - i) 0 keep fz ⟨Nat.zero_le _, h0⟩ hg ?_
  rintro i ⟨hi, hv⟩
  rcases Nat.lt_or_ge i m with hlt | hge
  · have hw := hr i hlt hv
    exact wpT_mono _ hw fun e fr S hq => by
      cases e with
      | normal => obtain ⟨k, z, h1, h2⟩ := hq; exact ⟨i + 1, k, z, h1, by omega, by omega, h2⟩
      | exit i => exact hq
      | ret => exact hq
  · have : i = m := by omega
    subst this
    have hw := hx hv
    exact wpT_mono _ hw fun e fr S hq => by
      cases e with
      | normal => exact hq.elim
      | exit i => exact hq
      | ret => exact hq

/-- Rows frozen, roots dropped, ahead of code. -/
theorem r_gc {c : Code} (l : List (Nat × T)) (S2 : Store) (keep : List Nat) (fz : List Gh) (hg : Gc M S fr S2 (frm l) keep fz) (h : wpT P M n c Q (frm l) S2) : wpT P M n c Q fr S := W.gc hg h

theorem r_end {fn : Func} {res : T} {S1 : Store} (keep : List Nat) (fz : List Gh) {rs : List ResultVar} {ts : List T} (hrs : fn.results.toList = rs := by (conv => lhs; whnf)) (hr : resTs P S fr rs = some ts := by (first | (simp only [go_sem, ↓reduceIte, Nat.reduceEqDiff, Nat.reduceMul, Nat.reduceAdd, Nat.reduceSub, Nat.reduceLT, Nat.reduceGT, Nat.reduceLeDiff, Nat.reduceBEq, Int.reduceLT, Int.reduceLE, Int.reduceNe, Int.reduceEq, Int.reduceToNat, Int.reduceAdd, Int.reduceSub, Int.reduceMul, Int.reduceNeg, Nat.reducePow, Int.reducePow, Nat.reduceSubDiff, decide_true, decide_false, reduceCtorEq, or_self, or_false, false_or, or_true, true_or, if_false, gt_iff_lt, ge_iff_le, ne_eq, not_true_eq_false, not_false_eq_true, and_self, beq_self_eq_true, Bool.false_eq_true] <;> with_reducible rfl) | with_reducible rfl)) (hs : WkS (gcS keep (fzAllS fz S)) S1 := by (simp only [go_sem, ↓reduceIte, Nat.reduceEqDiff, Nat.reduceMul, Nat.reduceAdd, Nat.reduceSub, Nat.reduceLT, Nat.reduceGT, Nat.reduceLeDiff, Nat.reduceBEq, Int.reduceLT, Int.reduceLE, Int.reduceNe, Int.reduceEq, Int.reduceToNat, Int.reduceAdd, Int.reduceSub, Int.reduceMul, Int.reduceNeg, Nat.reducePow, Int.reducePow, Nat.reduceSubDiff, decide_true, decide_false, reduceCtorEq, or_self, or_false, false_or, or_true, true_or, if_false, gt_iff_lt, ge_iff_le, ne_eq, not_true_eq_false, not_false_eq_true, and_self, beq_self_eq_true, Bool.false_eq_true]; try (repeat (first | exact True.intro | exact Wk.refl _ | exact Wk.nil _ _ | exact Wk.dead _ | exact Wk.bT (by assumption) | exact Wk.bF (by assumption) | exact Wk.eqI (by omega) | exact WkS.refl _ | exact Wks.same _ | exact Wks.nil | exact WkS.nil | refine And.intro ?_ ?_ | refine Wk.aggs ?_ | refine Wk.tups ?_ | refine Wks.cons ?_ ?_ | refine WkS.cons (by first | exact fun _ => rfl | exact fun h => absurd h Bool.false_ne_true) ?_ ?_ ?_ | assumption | exact (fun h => h) | exact (fun h => absurd h Bool.false_ne_true) | intro _)))) (hres : Wk (gcT keep (fzAllT fz S (packT ts))) res := by (simp only [go_sem, ↓reduceIte, Nat.reduceEqDiff, Nat.reduceMul, Nat.reduceAdd, Nat.reduceSub, Nat.reduceLT, Nat.reduceGT, Nat.reduceLeDiff, Nat.reduceBEq, Int.reduceLT, Int.reduceLE, Int.reduceNe, Int.reduceEq, Int.reduceToNat, Int.reduceAdd, Int.reduceSub, Int.reduceMul, Int.reduceNeg, Nat.reducePow, Int.reducePow, Nat.reduceSubDiff, decide_true, decide_false, reduceCtorEq, or_self, or_false, false_or, or_true, true_or, if_false, gt_iff_lt, ge_iff_le, ne_eq, not_true_eq_false, not_false_eq_true, and_self, beq_self_eq_true, Bool.false_eq_true]; try (repeat (first | exact True.intro | exact Wk.refl _ | exact Wk.nil _ _ | exact Wk.dead _ | exact Wk.bT (by assumption) | exact Wk.bF (by assumption) | exact Wk.eqI (by omega) | exact WkS.refl _ | exact Wks.same _ | exact Wks.nil | exact WkS.nil | refine And.intro ?_ ?_ | refine Wk.aggs ?_ | refine Wk.tups ?_ | refine Wks.cons ?_ ?_ | refine WkS.cons (by first | exact fun _ => rfl | exact fun h => absurd h Bool.false_ne_true) ?_ ?_ ?_ | assumption | exact (fun h => h) | exact (fun h => absurd h Bool.false_ne_true) | intro _)))) (hn : keep.Nodup := by decide) (hl : (keep.all fun r => Nat.blt r (S.length + ghN fz)) = true := by rfl)
    (hm : ∀ i, i < M → keep[i]? = some i := by intro i hi; first | (exact absurd hi (Nat.not_lt_zero _)) | (revert i; decide) | (simp only [List.length_cons, List.length_nil, Nat.zero_add, Nat.reduceAdd] at hi; revert i; decide)) : EndT P M fn res S1 .ret fr S :=
  EndT.of trivial ⟨ts, keep, fz, by rw [hrs]; exact hr, ⟨hn, fun r hr => by have := List.all_eq_true.1 hl r hr; simpa [Nat.blt_eq] using this, hm, hs, fun _ => .dead _⟩, hres⟩
end

section
variable {P : Program} {M : Nat} {fr : Nat → T} {S : Store}
/-- The end of a body that answers a truth value. -/
theorem r_endb {fn : Func} {rs : List ResultVar} {p q : Prop} [Decidable p] [Decidable q] (h : p ↔ q) (hrs : fn.results.toList = rs := by (conv => lhs; whnf)) (hr : resTs P S fr rs = some [.v (.bool (decide p))] := by (first | (simp only [go_sem, ↓reduceIte, Nat.reduceEqDiff, Nat.reduceMul, Nat.reduceAdd, Nat.reduceSub, Nat.reduceLT, Nat.reduceGT, Nat.reduceLeDiff, Nat.reduceBEq, Int.reduceLT, Int.reduceLE, Int.reduceNe, Int.reduceEq, Int.reduceToNat, Int.reduceAdd, Int.reduceSub, Int.reduceMul, Int.reduceNeg, Nat.reducePow, Int.reducePow, Nat.reduceSubDiff, decide_true, decide_false, reduceCtorEq, or_self, or_false, false_or, or_true, true_or, if_false, gt_iff_lt, ge_iff_le, ne_eq, not_true_eq_false, not_false_eq_true, and_self, beq_self_eq_true, Bool.false_eq_true] <;> with_reducible rfl) | with_reducible rfl))
    (hM : M = 0 := by rfl) : EndT P M fn (.v (.bool (decide q))) [] .ret fr S := by
  subst hM
  exact EndT.of trivial ⟨_, [], [], by rw [hrs]; exact hr, ⟨List.nodup_nil, fun r h => by simp at h, fun i hi => absurd hi (Nat.not_lt_zero _), .nil, fun _ => .dead _⟩, by
    have : decide p = decide q := by by_cases hp : p <;> simp_all
    simp only [fzAllT, packT, gcT, this]
    exact .refl _⟩
theorem r_endT {fn : Func} {rs : List ResultVar} {q : Prop} [Decidable q] (h : q) (hrs : fn.results.toList = rs := by (conv => lhs; whnf)) (hr : resTs P S fr rs = some [.v (.bool true)] := by (first | (simp only [go_sem, ↓reduceIte, Nat.reduceEqDiff, Nat.reduceMul, Nat.reduceAdd, Nat.reduceSub, Nat.reduceLT, Nat.reduceGT, Nat.reduceLeDiff, Nat.reduceBEq, Int.reduceLT, Int.reduceLE, Int.reduceNe, Int.reduceEq, Int.reduceToNat, Int.reduceAdd, Int.reduceSub, Int.reduceMul, Int.reduceNeg, Nat.reducePow, Int.reducePow, Nat.reduceSubDiff, decide_true, decide_false, reduceCtorEq, or_self, or_false, false_or, or_true, true_or, if_false, gt_iff_lt, ge_iff_le, ne_eq, not_true_eq_false, not_false_eq_true, and_self, beq_self_eq_true, Bool.false_eq_true] <;> with_reducible rfl) | with_reducible rfl)) (hM : M = 0 := by rfl) : EndT P M fn (.v (.bool (decide q))) [] .ret fr S :=
  r_endb (p := True) (by simp [h]) hrs hr hM
theorem r_endF {fn : Func} {rs : List ResultVar} {q : Prop} [Decidable q] (h : ¬ q) (hrs : fn.results.toList = rs := by (conv => lhs; whnf)) (hr : resTs P S fr rs = some [.v (.bool false)] := by (first | (simp only [go_sem, ↓reduceIte, Nat.reduceEqDiff, Nat.reduceMul, Nat.reduceAdd, Nat.reduceSub, Nat.reduceLT, Nat.reduceGT, Nat.reduceLeDiff, Nat.reduceBEq, Int.reduceLT, Int.reduceLE, Int.reduceNe, Int.reduceEq, Int.reduceToNat, Int.reduceAdd, Int.reduceSub, Int.reduceMul, Int.reduceNeg, Nat.reducePow, Int.reducePow, Nat.reduceSubDiff, decide_true, decide_false, reduceCtorEq, or_self, or_false, false_or, or_true, true_or, if_false, gt_iff_lt, ge_iff_le, ne_eq, not_true_eq_false, not_false_eq_true, and_self, beq_self_eq_true, Bool.false_eq_true] <;> with_reducible rfl) | with_reducible rfl)) (hM : M = 0 := by rfl) : EndT P M fn (.v (.bool (decide q))) [] .ret fr S :=
  r_endb (p := False) (by simp [h]) hrs hr hM
end

/-- Rows of things. -/
def rowT {α : Type} (enc : α → List T) (l : List α) : List T := l.flatMap enc
theorem rowT_len {α : Type} {enc : α → List T} {sz : Nat} (h : ∀ x, (enc x).length = sz) : ∀ (l : List α), (rowT enc l).length = l.length * sz
  | [] => by simp [rowT]
  | x :: l => by
    have := rowT_len h l
    simp only [rowT, List.flatMap_cons, List.length_append, h, List.length_cons, Nat.succ_mul] at this ⊢
    omega
theorem rowT_append {α : Type} (enc : α → List T) (a b : List α) : rowT enc (a ++ b) = rowT enc a ++ rowT enc b := by simp [rowT]
theorem rowT_nil {α : Type} (enc : α → List T) : rowT enc [] = [] := rfl
theorem rowT_cons {α : Type} (enc : α → List T) (x : α) (l : List α) : rowT enc (x :: l) = enc x ++ rowT enc l := rfl

/-- Cells that hold plain values or frozen trees of one tag. -/
def plainC : T → Bool
  | .v x => x.oneCell'
  | .sl false _ _ _ _ => true
  | _ => false
structure Enc {α : Type} (enc : α → List T) (sz : Nat) : Prop where
  len : ∀ x, (enc x).length = sz
  plain : ∀ x, (enc x).all plainC = true

theorem plain_gc {keep : List Nat} : ∀ {l : List T}, l.all plainC = true → gcTs keep l = l
  | [], _ => rfl
  | c :: l, h => by
    simp only [List.all_cons, Bool.and_eq_true] at h
    rw [gcTs, plain_gc h.2]
    cases c with
    | sl own => cases own with
      | false => rfl
      | true => simp [plainC] at h
    | v => rfl
    | _ => simp [plainC] at h
theorem plain_ren {g : Nat → Nat} : ∀ {l : List T}, l.all plainC = true → rens g l = l
  | [], _ => rfl
  | c :: l, h => by
    simp only [List.all_cons, Bool.and_eq_true] at h
    rw [rens, plain_ren h.2]
    cases c with
    | sl own => cases own with
      | false => rfl
      | true => simp [plainC] at h
    | v => rfl
    | _ => simp [plainC] at h
theorem plain_fz : ∀ {l : List T}, l.all plainC = true → allTs leafFz l = true
  | [], _ => rfl
  | c :: l, h => by
    simp only [List.all_cons, Bool.and_eq_true] at h
    rw [allTs, plain_fz h.2]
    cases c with
    | sl own => cases own with
      | false => rfl
      | true => simp [plainC] at h
    | v => rfl
    | _ => simp [plainC] at h
theorem plain_zn : ∀ {l : List T}, l.all plainC = true → zns l = l
  | [], _ => rfl
  | c :: l, h => by
    simp only [List.all_cons, Bool.and_eq_true] at h
    rw [zns, plain_zn h.2]
    cases c with
    | sl own => cases own with
      | false => rfl
      | true => simp [plainC] at h
    | v => rfl
    | _ => simp [plainC] at h
theorem plain_re {f : NMap} : ∀ {l : List T}, l.all plainC = true → reTs f l = l
  | [], _ => rfl
  | c :: l, h => by
    simp only [List.all_cons, Bool.and_eq_true] at h
    rw [reTs, plain_re h.2]
    cases c with
    | sl own => cases own with
      | false => rfl
      | true => simp [plainC] at h
    | v => rfl
    | _ => simp [plainC] at h
theorem plain_noref : ∀ {l : List T}, l.all plainC = true → allTs leafNoRef l = true
  | [], _ => rfl
  | c :: l, h => by
    simp only [List.all_cons, Bool.and_eq_true] at h
    rw [allTs, plain_noref h.2]
    cases c with
    | sl own => cases own with
      | false => rfl
      | true => simp [plainC] at h
    | v => rfl
    | _ => simp [plainC] at h
theorem plain_cell : ∀ {l : List T}, l.all plainC = true → l.all cellOk = true
  | [], _ => rfl
  | c :: l, h => by
    simp only [List.all_cons, Bool.and_eq_true] at h
    rw [List.all_cons, plain_cell h.2]
    cases c with
    | sl own => cases own with
      | false => rfl
      | true => simp [plainC] at h
    | v => simpa [plainC, cellOk] using h.1
    | _ => simp [plainC] at h
theorem rowT_plain {α : Type} {enc : α → List T} {sz : Nat} (h : Enc enc sz) (l : List α) : (rowT enc l).all plainC = true := by
  simp only [rowT, List.all_flatMap, List.all_eq_true]
  intro x _
  exact List.all_eq_true.1 (h.plain x)

def u8C (x : Int) : List T := [.v (.int .u8 x)]
def i64C (x : Int) : List T := [.v (.int .i64 x)]
def strC (x : ByteArray) : List T := [.v (.string x)]
theorem u8E : Enc u8C 1 := ⟨fun _ => rfl, fun _ => rfl⟩
theorem i64E : Enc i64C 1 := ⟨fun _ => rfl, fun _ => rfl⟩
theorem strE : Enc strC 1 := ⟨fun _ => rfl, fun _ => rfl⟩

/-- How things lie in a row. -/
class RowE {α : Type} (enc : α → List T) (sz : outParam Nat) : Prop where
  e : Enc enc sz
instance : RowE u8C 1 := ⟨u8E⟩
instance : RowE i64C 1 := ⟨i64E⟩
instance : RowE strC 1 := ⟨strE⟩
attribute [go_sem] u8C i64C strC

/-- The thing at a place. -/
def nth {α : Type} [Inhabited α] (l : List α) (i : Int) : α := l.getD i.toNat default
theorem nth_nat {α : Type} [Inhabited α] {l : List α} {i : Nat} (h : i < l.length) : nth l i = l[i] := by
  unfold nth
  rw [Int.toNat_natCast, List.getD_eq_getElem?_getD, List.getElem?_eq_getElem h]; rfl
theorem take_nth {α : Type} [Inhabited α] {l : List α} {i : Nat} (h : i < l.length) : l.take (i + 1) = l.take i ++ [nth l i] := by
  rw [nth_nat h, List.take_append_getElem h]
theorem nth_mem {α : Type} [Inhabited α] {l : List α} {i : Nat} (h : i < l.length) : nth l i ∈ l := by
  rw [nth_nat h]; exact List.getElem_mem h
attribute [go_sem] Int.natCast_add
@[go_sem] theorem rowT_nil' {α : Type} (enc : α → List T) : rowT enc [] = [] := rfl

section
variable {α : Type} {enc : α → List T} {sz : Nat}
@[go_sem] theorem gc_row [h : RowE enc sz] (keep : List Nat) (l : List α) : gcTs keep (rowT enc l) = rowT enc l := plain_gc (rowT_plain h.e l)
@[go_sem] theorem ren_row [h : RowE enc sz] (g : Nat → Nat) (l : List α) : rens g (rowT enc l) = rowT enc l := plain_ren (rowT_plain h.e l)
@[go_sem] theorem fz_row [h : RowE enc sz] (l : List α) : allTs leafFz (rowT enc l) = true := plain_fz (rowT_plain h.e l)
@[go_sem] theorem zn_row [h : RowE enc sz] (l : List α) : zns (rowT enc l) = rowT enc l := plain_zn (rowT_plain h.e l)
@[go_sem] theorem re_row [h : RowE enc sz] (f : NMap) (l : List α) : reTs f (rowT enc l) = rowT enc l := plain_re (rowT_plain h.e l)
@[go_sem] theorem len_row [h : RowE enc sz] (l : List α) : (rowT enc l).length = l.length * sz := rowT_len h.e.len l
theorem plain_fzTs {x : Root} {r : Nat} : ∀ {l : List T}, l.all plainC = true → fzTs x r l = l
  | [], _ => rfl
  | c :: l, h => by
    simp only [List.all_cons, Bool.and_eq_true] at h
    rw [fzTs, plain_fzTs h.2]
    cases c with
    | sl own => cases own with
      | false => rfl
      | true => simp [plainC] at h
    | v => rfl
    | _ => simp [plainC] at h
@[go_sem] theorem fzs_row [h : RowE enc sz] (x : Root) (r : Nat) (l : List α) : fzTs x r (rowT enc l) = rowT enc l := plain_fzTs (rowT_plain h.e l)
@[go_sem] theorem rowT_1 (x : α) : rowT enc [x] = enc x := by simp [rowT]
@[go_sem] theorem take_row [h : RowE enc sz] (l : List α) : List.take (l.length * sz) (rowT enc l) = rowT enc l := List.take_of_length_le (by rw [rowT_len h.e.len]; exact Nat.le_refl _)
theorem row_get [h : RowE enc sz] [Inhabited α] (l : List α) (i : Nat) (hi : i < l.length) : ((rowT enc l).drop (i * sz)).take sz = enc (l.getD i default) := by
  induction l generalizing i with
  | nil => simp at hi
  | cons x l ih =>
    cases i with
    | zero =>
      rw [Nat.zero_mul, List.drop_zero, rowT_cons, List.take_append_of_le_length (by rw [h.e.len]; exact Nat.le_refl _), List.take_of_length_le (by rw [h.e.len]; exact Nat.le_refl _)]
      rfl
    | succ i =>
      have e1 : (enc x ++ rowT enc l).drop sz = rowT enc l := by rw [List.drop_append_of_le_length (by rw [h.e.len]; exact Nat.le_refl _), List.drop_of_length_le (by rw [h.e.len]; exact Nat.le_refl _), List.nil_append]
      rw [Nat.succ_mul, rowT_cons, Nat.add_comm, ← List.drop_drop, e1, ih i (by simpa using hi)]
      rfl
end

/-- Leaves without a tag. -/
class RowF {α : Type} (enc : α → List T) : Prop where
  f : ∀ x, (enc x).all (fun c => match c with | .v _ => true | .sl false 0 _ _ _ => true | _ => false) = true
instance : RowF u8C := ⟨fun _ => rfl⟩
instance : RowF i64C := ⟨fun _ => rfl⟩
instance : RowF strC := ⟨fun _ => rfl⟩
theorem free_0 {L : Nat} (hL : L ≠ 0) : ∀ {l : List T}, (l.all fun c => match c with | .v _ => true | .sl false 0 _ _ _ => true | _ => false) = true → allTs (leafFree L) l = true
  | [], _ => rfl
  | c :: l, h => by
    simp only [List.all_cons, Bool.and_eq_true] at h
    rw [allTs, free_0 hL h.2]
    cases c with
    | v => rfl
    | sl o k =>
      cases o with
      | true => simp at h
      | false =>
        cases k with
        | zero => simp [allT, leafFree, Ne.symm hL]
        | succ k => simp at h
    | _ => simp at h
theorem rowF_all {α : Type} {enc : α → List T} [h : RowF enc] (l : List α) : ((rowT enc l).all fun c => match c with | .v _ => true | .sl false 0 _ _ _ => true | _ => false) = true := by
  simp only [rowT, List.all_flatMap, List.all_eq_true]
  intro x _
  exact List.all_eq_true.1 (h.f x)
@[go_sem] theorem free_row {α : Type} {enc : α → List T} [RowF enc] (L : Nat) (l : List α) : allTs (leafFree (L + 1)) (rowT enc l) = true := free_0 (by omega) (rowF_all l)
@[go_sem] theorem free_row1 {α : Type} {enc : α → List T} [RowF enc] (l : List α) : allTs (leafFree 1) (rowT enc l) = true := free_0 (by omega) (rowF_all l)
theorem flat_0 : ∀ {l : List T}, (l.all fun c => match c with | .v _ => true | .sl false 0 _ _ _ => true | _ => false) = true → l.all flatC = true
  | [], _ => rfl
  | c :: l, h => by
    simp only [List.all_cons, Bool.and_eq_true] at h ⊢
    refine ⟨?_, flat_0 h.2⟩
    cases c with
    | v => rfl
    | sl o k => cases o with
      | true => simp at h
      | false => cases k with
        | zero => rfl
        | succ k => simp at h
    | _ => simp at h
@[go_sem] theorem flat_row {α : Type} {enc : α → List T} [RowF enc] (l : List α) : (rowT enc l).all flatC = true := flat_0 (rowF_all l)

attribute [go_sem] frmOk List.idxOf?_cons List.idxOf?_nil and_true true_and and_self
attribute [go_sem] zns zn reTs reT reS ghS ghT
@[go_sem] theorem ghS_lit (n : Nat) (S : Store) : ghS (@OfNat.ofNat Gh n (Gh.lit n)) S = fzS n S := rfl
@[go_sem] theorem ghT_lit (n : Nat) (S : Store) (t : T) : ghT (@OfNat.ofNat Gh n (Gh.lit n)) S t = fzT (rootAt S n) n t := rfl
@[go_sem] theorem zn_sl (k n e : Nat) (cs : List T) : zn (.sl false k n e cs) = .sl false k n e cs := by simp [zn]
@[go_sem] theorem zn_slt (k n e : Nat) (cs : List T) : zn (.sl true k n e cs) = .sl false 0 n e (zns cs) := by simp [zn]
@[go_sem] theorem reT_sl (f : NMap) (k n e : Nat) (cs : List T) : reT f (.sl false k n e cs) = .sl false k n e cs := by simp [reT]
@[go_sem] theorem reT_slt (f : NMap) (k n e : Nat) (cs : List T) : reT f (.sl true k n e cs) = .sl true k n e (reTs f cs) := by simp [reT]
attribute [go_sem] gcS Root.gc gcTs gcT fzAllS fzAllT fzS fzTs fzT fzRef rootAt flatC leafFz allT allTs leafFree ren rens Root.ren
@[go_sem] theorem allT_sl (f : T → Bool) (k n e : Nat) (cs : List T) : allT f (.sl false k n e cs) = f (.sl false k n e cs) := by simp [allT]
@[go_sem] theorem allT_slt (f : T → Bool) (k n e : Nat) (cs : List T) : allT f (.sl true k n e cs) = allTs f cs := by simp [allT]
@[go_sem] theorem gcT_sl (keep : List Nat) (k n e : Nat) (cs : List T) : gcT keep (.sl false k n e cs) = .sl false k n e cs := by simp [gcT]
@[go_sem] theorem ren_sl (g : Nat → Nat) (k n e : Nat) (cs : List T) : ren g (.sl false k n e cs) = .sl false k n e cs := by simp [ren]
@[go_sem] theorem fzT_sl (x : Root) (r k n e : Nat) (cs : List T) : fzT x r (.sl false k n e cs) = .sl false k n e cs := by simp [fzT]
@[go_sem] theorem free_sl (L k n e : Nat) (cs : List T) : leafFree L (.sl false k n e cs) = (k != L) := rfl
@[go_sem] theorem ne_01 : ((0 : Nat) != 1) = true := rfl
attribute [go_sem] List.all_nil List.all_cons beq_self_eq_true List.drop_zero Nat.zero_add Nat.le_refl
@[go_sem] theorem at_0 (any : Bool) (x : Root) (S : Store) (p : List Nat) : Store.at any (x :: S) 0 p = if x.live then cellsAt any x.e x.cs p else none := of_eq_true (eq_self _)
@[go_sem] theorem at_s (any : Bool) (x : Root) (S : Store) (r : Nat) (p : List Nat) : Store.at any (x :: S) (r + 1) p = Store.at any S r p := of_eq_true (eq_self _)
@[go_sem] theorem at_1 (any : Bool) (x : Root) (S : Store) (p : List Nat) : Store.at any (x :: S) 1 p = Store.at any S 0 p := of_eq_true (eq_self _)
@[go_sem] theorem at_2 (any : Bool) (x y : Root) (S : Store) (p : List Nat) : Store.at any (x :: y :: S) 2 p = Store.at any S 0 p := of_eq_true (eq_self _)
@[go_sem] theorem at_3 (any : Bool) (x y z : Root) (S : Store) (p : List Nat) : Store.at any (x :: y :: z :: S) 3 p = Store.at any S 0 p := of_eq_true (eq_self _)
@[go_sem] theorem at_4 (any : Bool) (x y z u : Root) (S : Store) (p : List Nat) : Store.at any (x :: y :: z :: u :: S) 4 p = Store.at any S 0 p := of_eq_true (eq_self _)
@[go_sem] theorem at_5 (any : Bool) (x y z u v : Root) (S : Store) (p : List Nat) : Store.at any (x :: y :: z :: u :: v :: S) 5 p = Store.at any S 0 p := of_eq_true (eq_self _)
@[go_sem] theorem at_6 (any : Bool) (x y z u v w : Root) (S : Store) (p : List Nat) : Store.at any (x :: y :: z :: u :: v :: w :: S) 6 p = Store.at any S 0 p := of_eq_true (eq_self _)
@[go_sem] theorem cellsAt_nil (any : Bool) (e : Nat) (cs : List T) : cellsAt any e cs [] = some (e, cs) := of_eq_true (eq_self _)
attribute [go_sem] List.set_cons_zero List.set_cons_succ
@[go_sem] theorem kill_0 (x : Root) (S : Store) : Store.kill (x :: S) 0 = { x with live := false } :: S := of_eq_true (eq_self _)
@[go_sem] theorem kill_s (x : Root) (S : Store) (r : Nat) : Store.kill (x :: S) (r + 1) = x :: Store.kill S r := by
  unfold Store.kill
  simp only [List.getElem?_cons_succ]
  cases S[r]? <;> rfl
@[go_sem] theorem kill_1 (x : Root) (S : Store) : Store.kill (x :: S) 1 = x :: Store.kill S 0 := kill_s x S 0
@[go_sem] theorem kill_2 (x : Root) (S : Store) : Store.kill (x :: S) 2 = x :: Store.kill S 1 := kill_s x S 1
@[go_sem] theorem kill_3 (x : Root) (S : Store) : Store.kill (x :: S) 3 = x :: Store.kill S 2 := kill_s x S 2
@[go_sem] theorem kill_4 (x : Root) (S : Store) : Store.kill (x :: S) 4 = x :: Store.kill S 3 := kill_s x S 3
@[go_sem] theorem kill_5 (x : Root) (S : Store) : Store.kill (x :: S) 5 = x :: Store.kill S 4 := kill_s x S 4
@[go_sem] theorem upd_0 (x : Root) (S : Store) (f : List T → List T) : Store.upd (x :: S) 0 [] f = { x with cs := f x.cs } :: S := of_eq_true (eq_self _)
@[go_sem] theorem upd_s (x : Root) (S : Store) (r : Nat) (p : List Nat) (f : List T → List T) : Store.upd (x :: S) (r + 1) p f = x :: Store.upd S r p f := by
  unfold Store.upd
  simp only [List.getElem?_cons_succ]
  cases S[r]? <;> rfl
@[go_sem] theorem upd_1 (x : Root) (S : Store) (p : List Nat) (f : List T → List T) : Store.upd (x :: S) 1 p f = x :: Store.upd S 0 p f := upd_s x S 0 p f
@[go_sem] theorem upd_2 (x : Root) (S : Store) (p : List Nat) (f : List T → List T) : Store.upd (x :: S) 2 p f = x :: Store.upd S 1 p f := upd_s x S 1 p f
@[go_sem] theorem upd_3 (x : Root) (S : Store) (p : List Nat) (f : List T → List T) : Store.upd (x :: S) 3 p f = x :: Store.upd S 2 p f := upd_s x S 2 p f
@[go_sem] theorem upd_4 (x : Root) (S : Store) (p : List Nat) (f : List T → List T) : Store.upd (x :: S) 4 p f = x :: Store.upd S 3 p f := upd_s x S 3 p f
@[go_sem] theorem wks_same (l : List T) : Wks l l = True := eq_true (.same _)

/-- Strings as bytes. -/
def strL (s : ByteArray) : List Int := s.data.toList.map fun b => (b.toNat : Int)
theorem strL_length (s : ByteArray) : (strL s).length = s.size := by
  rw [strL, List.length_map, Array.length_toList]; rfl
theorem rowT_map (c : Int → T) (l : List Int) : rowT (fun x => [c x]) l = l.map c := by
  induction l with
  | nil => rfl
  | cons x l ih => rw [rowT_cons, ih]; rfl
theorem bytes_row (s : ByteArray) : (s.data.toList.map fun b => T.v (.int .u8 b.toNat)) = rowT u8C (strL s) := by
  rw [show u8C = fun x => [T.v (.int .u8 x)] from rfl, rowT_map (fun x => T.v (.int .u8 x)), strL, List.map_map]
  rfl

end Go.TL
