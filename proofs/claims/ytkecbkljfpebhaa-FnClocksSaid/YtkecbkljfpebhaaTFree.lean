/- Drawn regions: an operation that hangs on nothing in the region and on no world goes first. No conditions. -/
import Derived.Test.YtkecbkljfpebhaaTHead
namespace Go.TL
set_option linter.unusedSimpArgs false
open Go.RowKit

/-- The places of what is left when the one at i is gone, and back. -/
def sk (i j : Nat) : Nat := if j < i then j else j + 1
def ks (i j : Nat) : Nat := if j < i then j else j - 1
def dropO (i : Nat) (o : Oper) : Oper := { o with after := ((o.after.toList.filter fun e => e.on != i).map fun e => { e with on := ks i e.on }).toArray }
def dropL (l : List Oper) (i : Nat) : List Oper := (l.eraseIdx i).map (dropO i)
def RelD (N i : Nat) (listed listed' : Array Bool) : Prop := listed.size = N + 1 ∧ listed'.size = N ∧ listed.getD i false = true ∧ ∀ j, j < N → ∀ d, listed'.getD j d = listed.getD (sk i j) d

section
variable {P : Program} {l : List Oper} {i N : Nat} {Q : Exit → Act → World → Prop}
theorem drop_at {j : Nat} : (dropL l i).toArray[j]? = (l.toArray[sk i j]?).map (dropO i) := by
  rw [List.getElem?_toArray, List.getElem?_toArray, dropL, List.getElem?_map, List.getElem?_eraseIdx]
  unfold sk
  split <;> rfl
theorem sk_ks {k : Nat} (h : k ≠ i) : sk i (ks i k) = k := by unfold sk ks; (repeat' split) <;> omega
theorem ks_lt {k : Nat} (h : k ≠ i) (hk : k < N + 1) (hi : i < N + 1) : ks i k < N := by unfold ks; split <;> omega
theorem sk_lt {j : Nat} (hj : j < N) : sk i j < N + 1 := by unfold sk; split <;> omega
theorem sk_ne (j : Nat) : sk i j ≠ i := by unfold sk; split <;> omega
theorem sk_inj {j k : Nat} (h : sk i j = sk i k) : j = k := by unfold sk at h; (repeat' split at h) <;> omega
theorem drop_ready {listed listed' : Array Bool} (hl : l.length = N + 1) (hi : i < N + 1) (hr : RelD N i listed listed') {k : Nat} : k ∈ Region.ready .any l.toArray listed ↔ ∃ j, k = sk i j ∧ j ∈ Region.ready .any (dropL l i).toArray listed' := by
  constructor
  · intro hk
    obtain ⟨h1, o, ho, h2⟩ := ready_iff.1 hk
    have hkN : k < N + 1 := by
      have := (Array.getElem?_eq_some_iff.1 ho).1
      simpa [hl] using this
    have hki : k ≠ i := by
      rintro rfl
      have := hr.2.2.1
      rw [Array.getD_eq_getD_getElem?] at this h1
      have hs : k < listed.size := by rw [hr.1]; exact hi
      rw [Array.getElem?_eq_getElem hs] at this h1
      exact absurd (this.symm.trans h1) (by decide)
    have hj := ks_lt hki hkN hi
    refine ⟨ks i k, (sk_ks hki).symm, ready_iff.2 ⟨by rw [hr.2.2.2 _ hj, sk_ks hki]; exact h1, dropO i o, by rw [drop_at, sk_ks hki, ho]; rfl, fun e he hb => ?_⟩⟩
    obtain ⟨e0, he0, rfl⟩ := List.mem_map.1 (List.mem_toArray.1 he)
    obtain ⟨hm, hne⟩ := List.mem_filter.1 he0
    have hm := Array.mem_toList_iff.1 hm
    have hx := h2 e0 hm hb
    have hne : e0.on ≠ i := by simpa using hne
    have hlt : e0.on < N + 1 := by
      rcases Nat.lt_or_ge e0.on listed.size with hl | hl
      · rwa [hr.1] at hl
      · rw [Array.getD_eq_getD_getElem?, Array.getElem?_eq_none hl] at hx; cases hx
    show listed'.getD (ks i e0.on) false = true
    rw [hr.2.2.2 _ (ks_lt hne hlt hi), sk_ks hne]; exact hx
  · rintro ⟨j, rfl, h⟩
    obtain ⟨h1, o', ho', h2⟩ := ready_iff.1 h
    rw [drop_at] at ho'
    obtain ⟨o, ho, rfl⟩ := Option.map_eq_some_iff.1 ho'
    have hj : j < N := by
      have h3 := (Array.getElem?_eq_some_iff.1 ho).1
      rw [List.size_toArray, hl] at h3
      unfold sk at h3
      split at h3 <;> omega
    refine ready_iff.2 ⟨by rw [← hr.2.2.2 j hj]; exact h1, o, ho, fun e he hb => ?_⟩
    by_cases h0 : e.on = i
    · rw [h0]; exact hr.2.2.1
    · have := h2 { e with on := ks i e.on } (List.mem_toArray.2 (List.mem_map.2 ⟨e, List.mem_filter.2 ⟨Array.mem_toList_iff.2 he, by simpa using h0⟩, rfl⟩)) hb
      dsimp only at this
      have hlt : ks i e.on < N := by
        rcases Nat.lt_or_ge (ks i e.on) listed'.size with hl | hl
        · rwa [hr.2.1] at hl
        · rw [Array.getD_eq_getD_getElem?, Array.getElem?_eq_none hl] at this; cases this
      rw [hr.2.2.2 _ hlt, sk_ks h0] at this
      exact this
theorem RelD.set {listed listed' : Array Bool} (hr : RelD N i listed listed') {j : Nat} (hj : j < N) : RelD N i (listed.setIfInBounds (sk i j) true) (listed'.setIfInBounds j true) := by
  refine ⟨by rw [Array.size_setIfInBounds]; exact hr.1, by rw [Array.size_setIfInBounds]; exact hr.2.1, ?_, fun k hk d => ?_⟩
  · have := hr.2.2.1
    rw [Array.getD_eq_getD_getElem?] at this ⊢
    rw [Array.getElem?_setIfInBounds, if_neg (sk_ne j)]; exact this
  · have e := hr.2.2.2 k hk d
    rw [Array.getD_eq_getD_getElem?, Array.getD_eq_getD_getElem?] at e ⊢
    rw [Array.getElem?_setIfInBounds, Array.getElem?_setIfInBounds, hr.1, hr.2.1]
    by_cases h : j = k
    · subst h
      rw [if_pos rfl, if_pos rfl, if_pos hj, if_pos (sk_lt hj)]
    · rw [if_neg h, if_neg (fun hh => h (sk_inj hh))]; exact e
theorem wpAny_drop (hl : l.length = N + 1) (hi : i < N + 1) (hg : ∀ o ∈ l, o.guard = none) : ∀ (fuel : Nat) (listed listed' : Array Bool) (a : Act) (w : World), RelD N i listed listed' → wpAny P .any (dropL l i).toArray Q fuel listed' a w → wpAny P .any l.toArray Q fuel listed a w
  | 0, listed, listed', a, w, hr, hw => by
    refine ⟨?_, hw.2⟩
    apply List.eq_nil_iff_forall_not_mem.2
    intro k hk
    obtain ⟨j, rfl, hj⟩ := (drop_ready hl hi hr).1 hk
    rw [hw.1] at hj
    cases hj
  | fuel + 1, listed, listed', a, w, hr, hw => by
    refine ⟨fun he => hw.1 ?_, fun k hk => ?_⟩
    · apply List.eq_nil_iff_forall_not_mem.2
      intro j hj
      have := (drop_ready hl hi hr).2 ⟨j, rfl, hj⟩
      rw [he] at this
      cases this
    · obtain ⟨j, rfl, hj⟩ := (drop_ready hl hi hr).1 hk
      obtain ⟨_, o, ho, _⟩ := ready_iff.1 hk
      have hjl : j < N := by
        have h3 := (Array.getElem?_eq_some_iff.1 ho).1
        rw [List.size_toArray, hl] at h3
        unfold sk at h3
        split at h3 <;> omega
      have step := fun a' w' (h : wpAny P .any (dropL l i).toArray Q fuel (listed'.setIfInBounds j true) a' w') => wpAny_drop hl hi hg fuel _ _ a' w' (hr.set hjl) h
      have hk2 : wpOp P (dropL l i).toArray Q j (wpAny P .any l.toArray Q fuel (listed.setIfInBounds (sk i j) true)) a w := wpOp_mono step (hw.2 j hj)
      have ho' : (dropL l i).toArray[j]? = some (dropO i o) := by rw [drop_at, ho]; rfl
      have hgn : o.guard = none := hg _ (by
        rw [List.getElem?_toArray] at ho
        exact List.mem_of_getElem? ho)
      unfold wpOp at hk2 ⊢
      rw [ho'] at hk2
      rw [ho]
      have hw1 : ∀ y, Region.wanted o y = true := fun y => by unfold Region.wanted; rw [hgn]
      have hw2 : ∀ y, Region.wanted (dropO i o) y = true := fun y => by
        unfold Region.wanted
        rw [show (dropO i o).guard = none from hgn]
      dsimp only at hk2 ⊢
      rw [hw2, if_pos rfl] at hk2
      rw [hw1, if_pos rfl]
      exact hk2
end

/-- The operation's answer, whatever the world. -/
def freeT (P : Program) (n : Nat) (fr : Nat → T) (S : Store) (o : Oper) (t : T) : Prop :=
  okDst n o.dst = true ∧ ∀ (E : Env) (w0 : World) (a : Act), E.S = S → Inv E w0 → FR E n fr a → ∃ v, TR E t v ∧ ∀ w, (execOp a.eval o).run P w = .ok (.value v) w
theorem freeT.move {P : Program} {n : Nat} {fr : Nat → T} {S : Store} {d : Option Nat} {x : Operand} {ty : TypeId} {pos : String} {aft : Array Edge} {g : Option (Nat × Bool)} (hd : okDst n d = true) : freeT P n fr S ⟨d, .move x, ty, pos, aft, g⟩ (ev fr x) :=
  ⟨hd, fun _ _ a _ _ hF => ⟨a.eval x, hF.ev x, fun _ => rfl⟩⟩
theorem freeT.fieldAddr {P : Program} {n : Nat} {fr : Nat → T} {S : Store} {d : Option Nat} {s : TypeId} {xo : Operand} {f : Nat} {ty : TypeId} {pos : String} {aft : Array Edge} {g : Option (Nat × Bool)} {r : Nat} {p : List Nat} {off o1 n1 : Nat} {ty1 : TypeId} (hd : okDst n d = true) (hx : ev fr xo = .ptr r p off) (hs : (S.at false r p).isSome = true) (hfl : fldT P s f = some (o1, n1, ty1)) (hn : n1 ≠ 0) : freeT P n fr S ⟨d, .fieldAddr s xo f, ty, pos, aft, g⟩ (.ptr r p (off + o1)) := by
  refine ⟨hd, fun E w0 a hS hI hF => ?_⟩
  subst hS
  have hv := hF.ev xo
  rw [hx] at hv
  obtain ⟨y, hy⟩ := Option.isSome_iff_exists.1 hs
  generalize hval : a.eval xo = val at hv
  cases hv with
  | ptr hr hh =>
    have := hh y hy
    refine ⟨.pointer (some ⟨E.φ r p, off + o1, none⟩), .ptr hr fun x hx => rfl, fun w => ?_⟩
    simp only [execOp, hval, this, Sem.run_bind, run_fieldAt hfl hn]; rfl
theorem freeT.bin {P : Program} {n : Nat} {fr : Nat → T} {S : Store} {d : Option Nat} {op : BinOp} {t : TypeId} {xo yo : Operand} {ty' ty : TypeId} {pos : String} {aft : Array Edge} {g : Option (Nat × Bool)} {r : T} (hd : okDst n d = true) (hr : binT P op t xo yo (ev fr xo) (ev fr yo) = some r) : freeT P n fr S ⟨d, .binOp op t xo yo ty', ty, pos, aft, g⟩ r := by
  refine ⟨hd, fun E w0 a hS hI hF => ?_⟩
  unfold binT at hr
  split at hr
  case h_2 => cases hr
  rename_i x y hx hy
  have ex := (hF.ev xo).toV _ _ _ hx
  have ey := (hF.ev yo).toV _ _ _ hy
  obtain ⟨v, hv, rfl⟩ := Option.map_eq_some_iff.1 hr
  refine ⟨v, TR.ofV E v, fun w => ?_⟩
  simp only [execOp]
  rw [ex, ey]
  have := pureRun_run hv w
  simp only [Sem.run_bind] at this ⊢
  rw [this]; rfl

section
variable {P : Program} {M n : Nat} {l : List Oper} {Q : Ex → (Nat → T) → Store → Prop} {fr : Nat → T} {S : Store}
def freeOk (l : List Oper) (i : Nat) : Bool :=
  Region.noSelect l.toArray && Region.free .any l.toArray (Array.replicate l.length false) i && (Region.ready .any l.toArray (Array.replicate l.length false)).contains i && l.all (·.guard.isNone)
theorem any_free {i : Nat} {o : Oper} {t : T} (ho : l[i]? = some o) (hf : freeT P n fr S o t) (hok : freeOk l i = true) (hT : AnyT P M n (dropL l i) Q (put fr o.dst t) S) : AnyT P M n l Q fr S := by
  intro E E0 w0 act hM hS hev hI hF
  simp only [freeOk, Bool.and_eq_true] at hok
  obtain ⟨⟨⟨h1, h2⟩, h3⟩, h4⟩ := hok
  have hi : i < l.length := (List.getElem?_eq_some_iff.1 ho).1
  obtain ⟨N, hN⟩ : ∃ N, l.length = N + 1 := ⟨l.length - 1, by omega⟩
  have hg : ∀ x ∈ l, x.guard = none := fun x hx => by
    have := List.all_eq_true.1 h4 x hx
    simpa using this
  obtain ⟨v, hv, hrun⟩ := hf.2 E w0 act hS hI hF
  have hk := hT E E0 w0 (act.put o.dst v) hM hS hev hI (hF.put hf.1 hv)
  rw [Act.put_defers] at hk
  have hi' : i < N + 1 := hN ▸ hi
  have hsz : (dropL l i).toArray.size = N := by
    rw [List.size_toArray, dropL, List.length_map, List.length_eraseIdx, if_pos hi, hN]; rfl
  rw [hsz] at hk
  have hsl : l.toArray.size = N + 1 := by simpa using hN
  rw [hsl]
  rw [hN] at h2 h3
  refine wpAny_take (oi := o) (by rw [List.getElem?_toArray]; exact ho) h1 h2 h3 (fun c a w hq => ?_) (.inl ⟨by unfold Region.wanted; rw [hg o (List.mem_of_getElem? ho)], hrun⟩) ?_
  · obtain ⟨ex, _, _, he, _⟩ := hq
    cases ex <;> cases he
  · refine wpAny_drop hN hi' hg N _ _ _ _ ⟨by simp, by simp, ?_, fun j hj d => ?_⟩ hk
    · rw [Array.getD_eq_getD_getElem?, Array.getElem?_setIfInBounds, if_pos rfl]; simp [hi']
    · rw [Array.getD_eq_getD_getElem?, Array.getD_eq_getD_getElem?, Array.getElem?_setIfInBounds, if_neg (Ne.symm (sk_ne j)), Array.getElem?_replicate, Array.getElem?_replicate, if_pos hj, if_pos (sk_lt hj)]

/-- A move goes first. -/
theorem t_move {l' : List Oper} {d : Nat} {ty : TypeId} {pos : String} {aft : Array Edge} {g : Option (Nat × Bool)} {x : Operand} {t : T} (i : Nat) (hT : AnyT P M n l' Q (upd fr d t) S) (ho : l[i]? = some ⟨some d, .move x, ty, pos, aft, g⟩ := by rfl) (hl : dropL l i = l' := by simp only [dropL, dropO, ks, List.eraseIdx_cons_succ, List.eraseIdx_cons_zero, List.map_cons, List.map_nil, List.toList_toArray, List.filter_cons, List.filter_nil, Nat.reduceBNe, bne_self_eq_false, Bool.false_eq_true, reduceIte, Nat.reduceSub, Nat.reduceLT]; exact rfl)
    (hv : ev fr x = t := by (first | (simp only [go_sem, ↓reduceIte, Nat.reduceEqDiff, Nat.reduceMul, Nat.reduceAdd, Nat.reduceSub, Nat.reduceLT, Nat.reduceGT, Nat.reduceLeDiff, Nat.reduceBEq, Int.reduceLT, Int.reduceLE, Int.reduceNe, Int.reduceEq, Int.reduceToNat, Int.reduceAdd, Int.reduceSub, Int.reduceMul, Int.reduceNeg, Nat.reducePow, Int.reducePow, Nat.reduceSubDiff, decide_true, decide_false, reduceCtorEq, or_self, or_false, false_or, or_true, true_or, if_false, gt_iff_lt, ge_iff_le, ne_eq, not_true_eq_false, not_false_eq_true, and_self, beq_self_eq_true, Bool.false_eq_true] <;> with_reducible rfl) | with_reducible rfl)) (hd : okDst n (some d) = true := by rfl) (hok : freeOk l i = true := by decide +kernel) : AnyT P M n l Q fr S := by
  subst hl hv
  exact any_free ho (freeT.move hd) hok hT
/-- A sum of plain values goes first. -/
theorem t_bin {l' : List Oper} {d : Nat} {ty : TypeId} {pos : String} {aft : Array Edge} {g : Option (Nat × Bool)} {op : BinOp} {t : TypeId} {xo yo : Operand} {ty' : TypeId} {r : T} (i : Nat) (hT : AnyT P M n l' Q (upd fr d r) S) (ho : l[i]? = some ⟨some d, .binOp op t xo yo ty', ty, pos, aft, g⟩ := by rfl) (hl : dropL l i = l' := by simp only [dropL, dropO, ks, List.eraseIdx_cons_succ, List.eraseIdx_cons_zero, List.map_cons, List.map_nil, List.toList_toArray, List.filter_cons, List.filter_nil, Nat.reduceBNe, bne_self_eq_false, Bool.false_eq_true, reduceIte, Nat.reduceSub, Nat.reduceLT]; exact rfl)
    (hr : binT P op t xo yo (ev fr xo) (ev fr yo) = some r := by simp (disch := omega) only [go_sem, ↓reduceIte, Nat.reduceEqDiff, Nat.reduceMul, Nat.reduceAdd, Nat.reduceSub, Nat.reduceLT, Nat.reduceGT, Nat.reduceLeDiff, Nat.reduceBEq, Int.reduceLT, Int.reduceLE, Int.reduceNe, Int.reduceEq, Int.reduceToNat, Int.reduceAdd, Int.reduceSub, Int.reduceMul, Int.reduceNeg, Nat.reducePow, Int.reducePow, Nat.reduceSubDiff, decide_true, decide_false, reduceCtorEq, or_self, or_false, false_or, or_true, true_or, if_false, gt_iff_lt, ge_iff_le, ne_eq, not_true_eq_false, not_false_eq_true, and_self, beq_self_eq_true, Bool.false_eq_true] <;> with_reducible rfl) (hd : okDst n (some d) = true := by rfl) (hok : freeOk l i = true := by decide +kernel) : AnyT P M n l Q fr S := by
  subst hl
  exact any_free ho (freeT.bin hd hr) hok hT
/-- The place of a field goes first. -/
theorem t_fa {l' : List Oper} {d : Nat} {ty : TypeId} {pos : String} {aft : Array Edge} {g : Option (Nat × Bool)} {s : TypeId} {x : Operand} {f : Nat} {r : Nat} {p : List Nat} {off off' o1 n1 : Nat} {ty1 : TypeId} (i : Nat) (hT : AnyT P M n l' Q (upd fr d (.ptr r p off')) S) (ho : l[i]? = some ⟨some d, .fieldAddr s x f, ty, pos, aft, g⟩ := by rfl) (hl : dropL l i = l' := by simp only [dropL, dropO, ks, List.eraseIdx_cons_succ, List.eraseIdx_cons_zero, List.map_cons, List.map_nil, List.toList_toArray, List.filter_cons, List.filter_nil, Nat.reduceBNe, bne_self_eq_false, Bool.false_eq_true, reduceIte, Nat.reduceSub, Nat.reduceLT]; exact rfl)
    (hx : ev fr x = .ptr r p off := by (first | (simp only [go_sem, ↓reduceIte, Nat.reduceEqDiff, Nat.reduceMul, Nat.reduceAdd, Nat.reduceSub, Nat.reduceLT, Nat.reduceGT, Nat.reduceLeDiff, Nat.reduceBEq, Int.reduceLT, Int.reduceLE, Int.reduceNe, Int.reduceEq, Int.reduceToNat, Int.reduceAdd, Int.reduceSub, Int.reduceMul, Int.reduceNeg, Nat.reducePow, Int.reducePow, Nat.reduceSubDiff, decide_true, decide_false, reduceCtorEq, or_self, or_false, false_or, or_true, true_or, if_false, gt_iff_lt, ge_iff_le, ne_eq, not_true_eq_false, not_false_eq_true, and_self, beq_self_eq_true, Bool.false_eq_true] <;> with_reducible rfl) | with_reducible rfl)) (hs : (S.at false r p).isSome = true := by first | rfl | simp only [go_sem, ↓reduceIte, Nat.reduceEqDiff, Nat.reduceMul, Nat.reduceAdd, Nat.reduceSub, Nat.reduceLT, Nat.reduceGT, Nat.reduceLeDiff, Nat.reduceBEq, Int.reduceLT, Int.reduceLE, Int.reduceNe, Int.reduceEq, Int.reduceToNat, Int.reduceAdd, Int.reduceSub, Int.reduceMul, Int.reduceNeg, Nat.reducePow, Int.reducePow, Nat.reduceSubDiff, decide_true, decide_false, reduceCtorEq, or_self, or_false, false_or, or_true, true_or, if_false, gt_iff_lt, ge_iff_le, ne_eq, not_true_eq_false, not_false_eq_true, and_self, beq_self_eq_true, Bool.false_eq_true]) (hfl : fldT P s f = some (o1, n1, ty1) := by (first | (simp only [go_sem, ↓reduceIte, Nat.reduceEqDiff, Nat.reduceMul, Nat.reduceAdd, Nat.reduceSub, Nat.reduceLT, Nat.reduceGT, Nat.reduceLeDiff, Nat.reduceBEq, Int.reduceLT, Int.reduceLE, Int.reduceNe, Int.reduceEq, Int.reduceToNat, Int.reduceAdd, Int.reduceSub, Int.reduceMul, Int.reduceNeg, Nat.reducePow, Int.reducePow, Nat.reduceSubDiff, decide_true, decide_false, reduceCtorEq, or_self, or_false, false_or, or_true, true_or, if_false, gt_iff_lt, ge_iff_le, ne_eq, not_true_eq_false, not_false_eq_true, and_self, beq_self_eq_true, Bool.false_eq_true] <;> with_reducible rfl) | with_reducible rfl)) (hn : n1 ≠ 0 := by decide)
    (ho1 : off + o1 = off' := by (try simp only [go_sem, ↓reduceIte, Nat.reduceEqDiff, Nat.reduceMul, Nat.reduceAdd, Nat.reduceSub, Nat.reduceLT, Nat.reduceGT, Nat.reduceLeDiff, Nat.reduceBEq, Int.reduceLT, Int.reduceLE, Int.reduceNe, Int.reduceEq, Int.reduceToNat, Int.reduceAdd, Int.reduceSub, Int.reduceMul, Int.reduceNeg, Nat.reducePow, Int.reducePow, Nat.reduceSubDiff, decide_true, decide_false, reduceCtorEq, or_self, or_false, false_or, or_true, true_or, if_false, gt_iff_lt, ge_iff_le, ne_eq, not_true_eq_false, not_false_eq_true, and_self, beq_self_eq_true, Bool.false_eq_true]) <;> exact rfl) (hd : okDst n (some d) = true := by rfl) (hok : freeOk l i = true := by decide +kernel) : AnyT P M n l Q fr S := by
  subst hl ho1
  exact any_free ho (freeT.fieldAddr hd hx hs hfl hn) hok hT
end

end Go.TL
