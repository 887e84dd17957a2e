/- Regions whose order is drawn, where every step leaves the roots: any order comes to what the text's order comes to. No conditions. -/
import Derived.Test.YtdnclbghhdflmaaTCongr
namespace Go.TL
open Go.RowKit

theorem opT_congr {P : Program} {ops : Array Oper} {n : Nat} {fr fr' : Nat → T} {S S' : Store} {o : Oper} {t : T} (hl : ∀ x ∈ o.looksAt ops, fr x = fr' x) (h : opT P ops n fr S o t S') : opT P ops n fr' S o t S' := by
  have he : ∀ x ∈ o.op.operands.toList, ev fr x = ev fr' x := by
    intro x hx
    cases x with
    | tmp i =>
      refine hl i ?_
      unfold Oper.looksAt
      refine List.mem_append.2 (.inl (List.mem_filterMap.2 ⟨_, hx, rfl⟩))
    | _ => rfl
  have hw : wantedT ops fr o = wantedT ops fr' o := by
    unfold wantedT
    cases hg : o.guard with
    | none => rfl
    | some g =>
      obtain ⟨j, w⟩ := g
      simp only
      cases hd : (ops[j]?).bind (·.dst) with
      | none => rfl
      | some d =>
        have := hl d (by
          unfold Oper.looksAt
          refine List.mem_append.2 (.inr ?_)
          rw [hg]
          simp [hd])
        simp only [this]
  unfold opT at h ⊢
  rw [← hw, ← calleeT_congr he, ← stepT_congr he]
  exact h

def frN : List Oper → List T → (Nat → T) → Nat → Nat → T
  | o :: os, v :: vs, fr, i + 1 => frN os vs (put fr o.dst v) i
  | _, _, fr, _ => fr

theorem pastOk_mem {P : Program} {ops : Array Oper} {n i : Nat} {fr : Nat → T} {o : Oper} {t : T} : ∀ {l : List (Nat × Store)}, pastOk P ops n i fr o t l → ∀ x ∈ l, bitT ops i x.1 = true ∨ opT P ops n fr x.2 o t x.2
  | [], _, x, hx => by simp at hx
  | y :: l, h, x, hx => by
    rcases List.mem_cons.1 hx with rfl | hx
    · exact h.1
    · exact pastOk_mem h.2 x hx
theorem behindOk_mem {ops : Array Oper} {i : Nat} : ∀ {l : List (Nat × Store)}, behindOk ops i l → ∀ x ∈ l, bitT ops i x.1 = true
  | [], _, x, hx => by simp at hx
  | y :: l, h, x, hx => by
    rcases List.mem_cons.1 hx with rfl | hx
    · exact h.1
    · exact behindOk_mem h.2 x hx
theorem pendOk_mem {P : Program} {ops : Array Oper} {n i : Nat} {S' : Store} : ∀ {l : List (Nat × (Nat → T) × Oper × T)}, pendOk P ops n i S' l → ∀ x ∈ l, bitT ops i x.1 = true ∨ opT P ops n x.2.1 S' x.2.2.1 x.2.2.2 S'
  | [], _, x, hx => by simp at hx
  | y :: l, h, x, hx => by
    rcases List.mem_cons.1 hx with rfl | hx
    · exact h.1
    · exact pendOk_mem h.2 x hx

theorem opT_free {P : Program} {ops : Array Oper} {n : Nat} {fr : Nat → T} {S S1 : Store} {o : Oper} {t : T} (hf : freeOp o = true) (h : opT P ops n fr S o t S) : opT P ops n fr S1 o t S1 := by
  obtain ⟨dst, op, ty, pos, aft, gd⟩ := o
  unfold opT at h ⊢
  split at h
  · obtain ⟨hd, h⟩ := h
    refine ⟨hd, ?_⟩
    cases op with
    | move x => simp only [calleeT, stepT, Option.some.injEq, Prod.mk.injEq] at h ⊢; exact ⟨h.1, trivial⟩
    | assign x => simp only [calleeT, stepT, Option.some.injEq, Prod.mk.injEq] at h ⊢; exact ⟨h.1, trivial⟩
    | pick c a b => simp only [calleeT, stepT, Option.map_eq_some_iff, Prod.mk.injEq] at h ⊢; obtain ⟨x, h1, h2, _⟩ := h; exact ⟨x, h1, h2, trivial⟩
    | binOp q t x y u => simp only [calleeT, stepT, Option.map_eq_some_iff, Prod.mk.injEq] at h ⊢; obtain ⟨x, h1, h2, _⟩ := h; exact ⟨x, h1, h2, trivial⟩
    | unOp q t x => simp only [calleeT, stepT, Option.map_eq_some_iff, Prod.mk.injEq] at h ⊢; obtain ⟨x, h1, h2, _⟩ := h; exact ⟨x, h1, h2, trivial⟩
    | field t x f => simp only [calleeT, stepT, Option.map_eq_some_iff, Prod.mk.injEq] at h ⊢; obtain ⟨x, h1, h2, _⟩ := h; exact ⟨x, h1, h2, trivial⟩
    | index t x f => simp only [calleeT, stepT, Option.map_eq_some_iff, Prod.mk.injEq] at h ⊢; obtain ⟨x, h1, h2, _⟩ := h; exact ⟨x, h1, h2, trivial⟩
    | extract x f => simp only [calleeT, stepT, Option.map_eq_some_iff, Prod.mk.injEq] at h ⊢; obtain ⟨x, h1, h2, _⟩ := h; exact ⟨x, h1, h2, trivial⟩
    | makeFunc f first caps =>
      cases f with
      | func g =>
        simp only [calleeT, stepT] at h ⊢
        split at h
        · rename_i he
          simp only [Option.some.injEq, Prod.mk.injEq] at h
          rw [if_pos he, h.1]
        · cases h
      | _ => simp [calleeT, stepT] at h
    | _ => simp [freeOp] at hf
  · exact ⟨h.1, h.2.1, rfl⟩
  · exact h

theorem opT_skip {P : Program} {ops : Array Oper} {n : Nat} {fr : Nat → T} {S S1 : Store} {o : Oper} {t : T} (hw : wantedT ops fr o = some false) (h : opT P ops n fr S o t S) : opT P ops n fr S1 o t S1 := by
  simp only [opT, hw] at h ⊢
  exact ⟨h.1, h.2.1, trivial⟩

/-- What a walk through a region in the text's order tells of each operation. -/
def Walked (P : Program) (ops : Array Oper) (n : Nat) (os : List Oper) (fr : Nat → T) (S : Store) (K : (Nat → T) → Store → Prop) (i0 : Nat) (past : List (Nat × Store)) (pend : List (Nat × (Nat → T) × Oper × T)) : Prop :=
    ∃ (vals : List T) (st : Nat → Store) (ch : Nat → Bool), vals.length = os.length ∧ st 0 = S ∧ K (frN os vals fr os.length) (st os.length) ∧
      (∀ (i : Nat) (o : Oper), os[i]? = some o → ∃ v, vals[i]? = some v ∧ opT P ops n (frN os vals fr i) (st i) o v (st (i + 1))) ∧
      (∀ (i : Nat) (o : Oper), os[i]? = some o → ch i = false → st (i + 1) = st i) ∧
      (∀ (i j : Nat) (o : Oper), os[i]? = some o → j < i → ch i = true → ch j = true → bitT ops (i0 + i) (i0 + j) = true) ∧
      (∀ (i : Nat) (o : Oper), os[i]? = some o → ch i = true → ∀ x ∈ past, bitT ops (i0 + i) x.1 = true) ∧
      (∀ (i j : Nat) (o : Oper) (v : T), os[i]? = some o → vals[i]? = some v → j < i → ch i = false → ch j = true → bitT ops (i0 + i) (i0 + j) = true ∨ opT P ops n (frN os vals fr i) (st j) o v (st j)) ∧
      (∀ (i : Nat) (o : Oper) (v : T), os[i]? = some o → vals[i]? = some v → ch i = false → ∀ x ∈ past, bitT ops (i0 + i) x.1 = true ∨ opT P ops n (frN os vals fr i) x.2 o v x.2) ∧
      (∀ (i j : Nat) (o : Oper) (v : T), os[i]? = some o → vals[i]? = some v → i < j → j < os.length → ch i = false → ch j = true → bitT ops (i0 + j) (i0 + i) = true ∨ opT P ops n (frN os vals fr i) (st (j + 1)) o v (st (j + 1))) ∧
      (∀ (j : Nat) (o : Oper), os[j]? = some o → ch j = true → ∀ x ∈ pend, bitT ops (i0 + j) x.1 = true ∨ opT P ops n x.2.1 (st (j + 1)) x.2.2.1 x.2.2.2 (st (j + 1)))

theorem walk_tells {P : Program} {ops : Array Oper} {n : Nat} {K : (Nat → T) → Store → Prop} : ∀ (os : List Oper) (pu : Dr) (fr : Nat → T) (S : Store) (i0 : Nat) (past : List (Nat × Store)) (pend : List (Nat × (Nat → T) × Oper × T)), pu = .any i0 past pend → wpOpsT P ops n pu os K fr S →
    Walked P ops n os fr S K i0 past pend
  | [], pu, fr, S, i0, past, pend, _, h => ⟨[], fun _ => S, fun _ => false, rfl, rfl, h, fun i o hi => by simp at hi, fun i o hi => by simp at hi, fun i j o hi => by simp at hi, fun i o hi => by simp at hi, fun i j o v hi => by simp at hi, fun i o v hi => by simp at hi, fun i j o v hi => by simp at hi, fun j o hi => by simp at hi⟩
  | o :: os, pu, fr, S, i0, past, pend, hpu, h => by
    subst hpu
    obtain ⟨t, S', pu', hop, hst, hw⟩ := h
    -- the rest, from whatever was listed
    have key : ∀ (c : Bool) (past' : List (Nat × Store)) (pend' : List (Nat × (Nat → T) × Oper × T)), pu' = .any (i0 + 1) past' pend' → (c = false → S' = S) → (c = true → ∀ x ∈ past, bitT ops i0 x.1 = true) →
        (c = false → ∀ x ∈ past, bitT ops i0 x.1 = true ∨ opT P ops n fr x.2 o t x.2) → (c = true → ∀ x ∈ pend, bitT ops i0 x.1 = true ∨ opT P ops n x.2.1 S' x.2.2.1 x.2.2.2 S') →
        (∀ x ∈ past, x ∈ past') → (c = true → (i0, S) ∈ past') → (∀ x ∈ pend, x ∈ pend') → (c = false → (freeOp o = true ∨ wantedT ops fr o = some false ∨ (i0, fr, o, t) ∈ pend')) → Walked P ops n (o :: os) fr S K i0 past pend := by
      intro c past' pend' hpu' hc1 hc2 hc3 hc4 hp1 hp2 hp3 hp4
      obtain ⟨vals, st, ch, e1, e2, e3, e4, e5, e6, e7, e8, e9, e10, e11⟩ := walk_tells os pu' (put fr o.dst t) S' (i0 + 1) past' pend' hpu' hw
      have sh : ∀ k, i0 + 1 + k = i0 + (k + 1) := fun k => by omega
      subst e2
      refine ⟨t :: vals, fun k => match k with | 0 => S | k + 1 => st k, fun k => match k with | 0 => c | k + 1 => ch k, by simp [e1], rfl, e3, ?_, ?_, ?_, ?_, ?_, ?_, ?_, ?_⟩
      · intro i o1 hi
        cases i with
        | zero =>
          simp only [List.getElem?_cons_zero, Option.some.injEq] at hi
          subst hi
          exact ⟨t, rfl, hop⟩
        | succ i => exact e4 i o1 (by simpa using hi)
      · intro i o1 hi hcc
        cases i with
        | zero => exact hc1 hcc
        | succ i => exact e5 i o1 (by simpa using hi) hcc
      · intro i j o1 hi hj h1 h2
        cases i with
        | zero => omega
        | succ i =>
          cases j with
          | zero =>
            have := e7 i o1 (by simpa using hi) h1 _ (hp2 h2)
            rw [sh] at this; exact this
          | succ j =>
            have := e6 i j o1 (by simpa using hi) (by omega) h1 h2
            rw [sh, sh] at this; exact this
      · intro i o1 hi h1 x hx
        cases i with
        | zero => exact hc2 h1 x hx
        | succ i =>
          have := e7 i o1 (by simpa using hi) h1 x (hp1 x hx)
          rw [sh] at this; exact this
      · intro i j o1 v hi hv hj h1 h2
        cases i with
        | zero => omega
        | succ i =>
          cases j with
          | zero =>
            have := e9 i o1 v (by simpa using hi) (by simpa using hv) h1 _ (hp2 h2)
            rw [sh] at this; exact this
          | succ j =>
            have := e8 i j o1 v (by simpa using hi) (by simpa using hv) (by omega) h1 h2
            rw [sh, sh] at this; exact this
      · intro i o1 v hi hv h1 x hx
        cases i with
        | zero =>
          simp only [List.getElem?_cons_zero, Option.some.injEq] at hi hv
          subst hi; subst hv
          exact hc3 h1 x hx
        | succ i =>
          have := e9 i o1 v (by simpa using hi) (by simpa using hv) h1 x (hp1 x hx)
          rw [sh] at this; exact this
      · intro i j o1 v hi hv hj hjl h1 h2
        cases j with
        | zero => omega
        | succ j =>
          cases i with
          | zero =>
            simp only [List.getElem?_cons_zero, Option.some.injEq] at hi hv
            subst hi; subst hv
            rcases hp4 h1 with hfo | hwf | hmem
            · right
              have hop' := hop
              rw [hc1 h1] at hop'
              exact opT_free hfo hop'
            · right
              have hop' := hop
              rw [hc1 h1] at hop'
              exact opT_skip hwf hop'
            · obtain ⟨o2, ho2⟩ : ∃ o2, os[j]? = some o2 := ⟨_, List.getElem?_eq_getElem (by simpa using hjl)⟩
              have := e11 j o2 ho2 h2 _ hmem
              rw [sh] at this; exact this
          | succ i =>
            have := e10 i j o1 v (by simpa using hi) (by simpa using hv) (by omega) (by simpa using hjl) h1 h2
            rw [sh, sh] at this; exact this
      · intro j o1 hj h1 x hx
        cases j with
        | zero =>
          exact hc4 h1 x hx
        | succ j =>
          have := e11 j o1 (by simpa using hj) h1 x (hp3 x hx)
          rw [sh] at this; exact this
    cases hst with
    | free hf => exact key false past pend rfl (fun _ => rfl) (fun h => by cases h) (fun _ x _ => .inr (opT_free hf hop)) (fun h => by cases h) (fun x h => h) (fun h => by cases h) (fun x h => h) (fun _ => .inl hf)
    | skip hw0 => exact key false past pend rfl (fun _ => rfl) (fun h => by cases h) (fun _ x _ => .inr (opT_skip hw0 hop)) (fun h => by cases h) (fun x h => h) (fun h => by cases h) (fun x h => h) (fun _ => .inr (.inl hw0))
    | still hp => exact key false past _ rfl (fun _ => rfl) (fun h => by cases h) (fun _ x hx => pastOk_mem hp x hx) (fun h => by cases h) (fun x h => h) (fun h => by cases h) (fun x h => List.mem_cons_of_mem _ h) (fun _ => .inr (.inr (List.mem_cons_self ..)))
    | chain hb hk => exact key true _ pend rfl (fun h => by cases h) (fun _ x hx => behindOk_mem hb x hx) (fun h => by cases h) (fun _ x hx => pendOk_mem hk x hx) (fun x h => List.mem_cons_of_mem _ h) (fun _ => List.mem_cons_self ..) (fun x h => h) (fun h => by cases h)

def dstAt (os : List Oper) (k : Nat) : Option Nat := (os[k]?).bind (·.dst)

theorem put_ne {fr : Nat → T} {d : Option Nat} {v : T} {t : Nat} (h : d ≠ some t) : put fr d v t = fr t := by
  cases d with
  | none => rfl
  | some d => simp only [put, upd]; rw [if_neg]; intro e; exact h (by rw [e])

theorem frN_out : ∀ (os : List Oper) (vals : List T) (fr : Nat → T) (i t : Nat), (∀ k, k < i → dstAt os k ≠ some t) → frN os vals fr i t = fr t
  | [], vals, fr, i, t, h => by cases i <;> rfl
  | o :: os, [], fr, i, t, h => by cases i <;> rfl
  | o :: os, v :: vs, fr, 0, t, h => rfl
  | o :: os, v :: vs, fr, i + 1, t, h => by
    simp only [frN]
    rw [frN_out os vs _ i t fun k hk => by have := h (k + 1) (by omega); simpa [dstAt] using this]
    exact put_ne (by have := h 0 (by omega); simpa [dstAt] using this)

theorem frN_in : ∀ (os : List Oper) (vals : List T) (fr : Nat → T) (i k t : Nat) (v : T), vals.length = os.length → k < i → dstAt os k = some t → vals[k]? = some v → (∀ k', k' ≠ k → dstAt os k' ≠ some t) → frN os vals fr i t = v
  | [], vals, fr, i, k, t, v, hl, hk, hd, hv, hu => by simp [dstAt] at hd
  | o :: os, [], fr, i, k, t, v, hl, hk, hd, hv, hu => by simp at hl
  | o :: os, w :: vs, fr, 0, k, t, v, hl, hk, hd, hv, hu => by omega
  | o :: os, w :: vs, fr, i + 1, 0, t, v, hl, hk, hd, hv, hu => by
    simp only [frN]
    simp only [List.getElem?_cons_zero, Option.some.injEq] at hv
    subst hv
    rw [frN_out os vs _ i t fun k hk => by have := hu (k + 1) (by omega); simpa [dstAt] using this]
    have : o.dst = some t := by simpa [dstAt] using hd
    rw [this]
    simp [put, upd]
  | o :: os, w :: vs, fr, i + 1, k + 1, t, v, hl, hk, hd, hv, hu => by
    simp only [frN]
    exact frN_in os vs _ i k t v (by simpa using hl) (by omega) (by simpa [dstAt] using hd) (by simpa using hv) fun k' hk' => by
      have := hu (k' + 1) (by omega); simpa [dstAt] using this

/-- What comes ahead of each operation. -/
theorem before_size (l : List Oper) (acc : Array Nat) : (l.foldl (init := acc) fun acc o => acc.push (o.after.foldl (fun s e => if Region.binds .any e then s ||| 2 ^ e.on ||| acc.getD e.on 0 else s) 0)).size = acc.size + l.length := by
  induction l generalizing acc with
  | nil => rfl
  | cons o l ih => rw [List.foldl_cons, ih]; simp; omega

theorem before_bits (es : List Edge) (acc : Array Nat) (s j : Nat) (h : (es.foldl (fun s e => if Region.binds .any e then s ||| 2 ^ e.on ||| acc.getD e.on 0 else s) s).testBit j = true) :
    s.testBit j = true ∨ ∃ e ∈ es, Region.binds .any e = true ∧ (e.on = j ∨ (acc.getD e.on 0).testBit j = true) := by
  induction es generalizing s with
  | nil => exact .inl h
  | cons e es ih =>
    rw [List.foldl_cons] at h
    rcases ih _ h with h1 | ⟨e1, h1, h2, h3⟩
    · split at h1
      · rename_i hb
        rw [Nat.testBit_or, Nat.testBit_or, Bool.or_eq_true, Bool.or_eq_true] at h1
        rcases h1 with (h1 | h1) | h1
        · exact .inl h1
        · rw [Nat.testBit_two_pow] at h1
          exact .inr ⟨e, List.mem_cons_self .., hb, .inl (by simpa using h1)⟩
        · exact .inr ⟨e, List.mem_cons_self .., hb, .inr h1⟩
      · exact .inl h1
    · exact .inr ⟨e1, List.mem_cons_of_mem _ h1, h2, h3⟩

theorem before_go : ∀ (l : List Oper) (acc : Array Nat) (i j : Nat), ((l.foldl (init := acc) fun acc o => acc.push (o.after.foldl (fun s e => if Region.binds .any e then s ||| 2 ^ e.on ||| acc.getD e.on 0 else s) 0)).getD i 0).testBit j = true →
    (i < acc.size ∧ (acc.getD i 0).testBit j = true) ∨ ∃ k o, i = acc.size + k ∧ l[k]? = some o ∧ ∃ e ∈ o.after, Region.binds .any e = true ∧ (e.on = j ∨ (e.on < i ∧ ((l.foldl (init := acc) fun acc o => acc.push (o.after.foldl (fun s e => if Region.binds .any e then s ||| 2 ^ e.on ||| acc.getD e.on 0 else s) 0)).getD e.on 0).testBit j = true))
  | [], acc, i, j, h => by
    left
    refine ⟨?_, h⟩
    rcases Nat.lt_or_ge i acc.size with hl | hl
    · exact hl
    · simp only [List.foldl_nil, Array.getD_eq_getD_getElem?, Array.getElem?_eq_none hl, Option.getD_none, Nat.zero_testBit] at h
      cases h
  | o :: l, acc, i, j, h => by
    have keep : ∀ (l : List Oper) (acc : Array Nat) (x : Nat), x < acc.size → ((l.foldl (init := acc) fun acc o => acc.push (o.after.foldl (fun s e => if Region.binds .any e then s ||| 2 ^ e.on ||| acc.getD e.on 0 else s) 0)).getD x 0) = acc.getD x 0 := by
      intro l
      induction l with
      | nil => intro acc x _; rfl
      | cons o l ih =>
        intro acc x hx
        rw [List.foldl_cons, ih _ _ (by simp; omega), Array.getD_eq_getD_getElem?, Array.getD_eq_getD_getElem?, Array.getElem?_push_lt hx, Array.getElem?_eq_getElem hx]
    rw [List.foldl_cons] at h ⊢
    rcases before_go l _ i j h with ⟨h1, h2⟩ | ⟨k, o1, h1, h2, h3⟩
    · simp only [Array.size_push] at h1
      rcases Nat.lt_or_ge i acc.size with hl | hl
      · left
        refine ⟨hl, ?_⟩
        rw [Array.getD_eq_getD_getElem?, Array.getElem?_push_lt hl] at h2
        rw [Array.getD_eq_getD_getElem?, Array.getElem?_eq_getElem hl]
        exact h2
      · right
        have : i = acc.size := by omega
        subst this
        refine ⟨0, o, rfl, rfl, ?_⟩
        rw [Array.getD_eq_getD_getElem?, Array.getElem?_push_size, Option.getD_some, ← Array.foldl_toList] at h2
        rcases before_bits _ _ _ _ h2 with h3 | ⟨e, h3, h4, h5⟩
        · simp at h3
        · refine ⟨e, by simpa using h3, h4, ?_⟩
          rcases h5 with h5 | h5
          · exact .inl h5
          · have hlt : e.on < acc.size := by
              rcases Nat.lt_or_ge e.on acc.size with hl | hl
              · exact hl
              · simp only [Array.getD_eq_getD_getElem?, Array.getElem?_eq_none hl, Option.getD_none, Nat.zero_testBit] at h5
                cases h5
            refine .inr ⟨hlt, ?_⟩
            rw [keep _ _ _ (by simp; omega), Array.getD_eq_getD_getElem?, Array.getElem?_push_lt hlt]
            rw [Array.getD_eq_getD_getElem?, Array.getElem?_eq_getElem hlt] at h5
            exact h5
    · right
      simp only [Array.size_push] at h1
      exact ⟨k + 1, o1, by omega, by simpa using h2, h3⟩

theorem bit_edge {ops : Array Oper} {i j : Nat} (h : bitT ops i j = true) : ∃ o, ops[i]? = some o ∧ ∃ e ∈ o.after, Region.binds .any e = true ∧ (e.on = j ∨ (e.on < i ∧ bitT ops e.on j = true)) := by
  unfold bitT Region.before at h
  rw [← Array.foldl_toList] at h
  rcases before_go _ _ _ _ h with ⟨h1, _⟩ | ⟨k, o, h1, h2, e, h3, h4, h5⟩
  · simp at h1
  · simp only [Array.size_empty, Nat.zero_add] at h1
    subst h1
    refine ⟨o, by rw [← Array.getElem?_toList]; exact h2, e, h3, h4, ?_⟩
    rcases h5 with h5 | ⟨h5, h6⟩
    · exact .inl h5
    · refine .inr ⟨h5, ?_⟩
      unfold bitT Region.before
      rw [← Array.foldl_toList]
      exact h6

/-- Whatever is listed has all listed that comes ahead of it. -/
theorem bit_closed {ops : Array Oper} {ls : Nat → Prop} (hcl : ∀ (i : Nat) (o : Oper), ops[i]? = some o → ls i → ∀ e ∈ o.after, Region.binds .any e = true → ls e.on) : ∀ (i j : Nat), ls i → bitT ops i j = true → ls j := by
  intro i
  induction i using Nat.strongRecOn with
  | _ i ih =>
    intro j hi hb
    obtain ⟨o, ho, e, he, hbi, h⟩ := bit_edge hb
    have := hcl i o ho hi e he hbi
    rcases h with rfl | ⟨h1, h2⟩
    · exact this
    · exact ih _ h1 j this h2

/-- No two operations can be told apart by the order. -/
def drawOk (ops : Array Oper) : Bool :=
  let b := Region.before ops
  (List.range ops.size).all fun i => match ops[i]? with
    | none => false
    | some o => (o.after.all fun e => !Region.binds .any e || Nat.blt e.on i) && (List.range ops.size).all fun k => match ops[k]? with
      | none => false
      | some o2 => match o2.dst with
        | none => true
        | some d => (k == i || o.dst != some d) && (!(o.looksAt ops).contains d || k == i || (Nat.blt k i && (b.getD i 0).testBit k) || (Nat.blt i k && (b.getD k 0).testBit i))

structure DrawOk (ops : Array Oper) : Prop where
  down : ∀ (i : Nat) (o : Oper), ops[i]? = some o → ∀ e ∈ o.after, Region.binds .any e = true → e.on < i
  uniq : ∀ (i k : Nat) (d : Nat), dstAt ops.toList i = some d → dstAt ops.toList k = some d → k = i
  looks : ∀ (i : Nat) (o : Oper) (k : Nat) (o2 : Oper) (d : Nat), ops[i]? = some o → ops[k]? = some o2 → o2.dst = some d → d ∈ o.looksAt ops → k = i ∨ (k < i ∧ bitT ops i k = true) ∨ (i < k ∧ bitT ops k i = true)

theorem DrawOk.of {ops : Array Oper} (h : drawOk ops = true) : DrawOk ops := by
  have key : ∀ (i : Nat) (o : Oper), ops[i]? = some o → (o.after.all fun e => !Region.binds .any e || Nat.blt e.on i) = true ∧ ∀ (k : Nat) (o2 : Oper) (d : Nat), ops[k]? = some o2 → o2.dst = some d →
      (k == i || o.dst != some d) = true ∧ (!(o.looksAt ops).contains d || k == i || (Nat.blt k i && bitT ops i k) || (Nat.blt i k && bitT ops k i)) = true := by
    intro i o hi
    have h1 := List.all_eq_true.1 h i (List.mem_range.2 (Array.getElem?_eq_some_iff.1 hi).1)
    simp only [hi, Bool.and_eq_true] at h1
    refine ⟨h1.1, fun k o2 d hk hd => ?_⟩
    have h2 := List.all_eq_true.1 h1.2 k (List.mem_range.2 (Array.getElem?_eq_some_iff.1 hk).1)
    simp only [hk, hd, Bool.and_eq_true] at h2
    exact h2
  refine ⟨fun i o hi e he hb => ?_, fun i k d hi hk => ?_, fun i o k o2 d hi hk hd hl => ?_⟩
  · have := Array.all_eq_true_iff_forall_mem.1 (key i o hi).1 e he
    simp only [hb, Bool.not_true, Bool.false_or, Nat.blt_eq] at this
    exact this
  · unfold dstAt at hi hk
    obtain ⟨o, ho, hd⟩ := Option.bind_eq_some_iff.1 hi
    obtain ⟨o2, ho2, hd2⟩ := Option.bind_eq_some_iff.1 hk
    rw [Array.getElem?_toList] at ho ho2
    have := ((key i o ho).2 k o2 d ho2 hd2).1
    rw [hd] at this
    simpa using this
  · have := ((key i o hi).2 k o2 d hk hd).2
    have hc : (o.looksAt ops).contains d = true := by simpa using hl
    simp only [hc, Bool.not_true, Bool.false_or, Bool.or_eq_true, beq_iff_eq, Bool.and_eq_true, Nat.blt_eq] at this
    rcases this with (h1 | h1) | h1
    · exact .inl h1
    · exact .inr (.inl h1)
    · exact .inr (.inr h1)

theorem filter_le (p q : Nat → Bool) : ∀ (l : List Nat), (∀ x ∈ l, q x = true → p x = true) → (l.filter q).length ≤ (l.filter p).length
  | [], _ => Nat.le_refl _
  | x :: l, h => by
    have := filter_le p q l fun y hy => h y (by simp [hy])
    have hx := h x (by simp)
    cases hq : q x <;> cases hp : p x <;> simp_all <;> omega

theorem filter_lt (p q : Nat → Bool) : ∀ (l : List Nat), (∀ x ∈ l, q x = true → p x = true) → (∃ x ∈ l, p x = true ∧ q x = false) → (l.filter q).length < (l.filter p).length
  | [], _, h => by obtain ⟨x, hx, _⟩ := h; simp at hx
  | x :: l, h, hex => by
    obtain ⟨y, hy, hp, hq⟩ := hex
    have hle := filter_le p q l fun z hz => h z (by simp [hz])
    have hx := h x (by simp)
    rcases List.mem_cons.1 hy with rfl | hy
    · simp only [List.filter_cons, hp, hq, if_true, Bool.false_eq_true, if_false, List.length_cons]
      omega
    · have := filter_lt p q l (fun z hz => h z (by simp [hz])) ⟨y, hy, hp, hq⟩
      cases hq' : q x <;> cases hp' : p x <;> simp_all <;> omega

def frD (ops : Array Oper) (vals : List T) (fr : Nat → T) (listed : Array Bool) (t : Nat) : T :=
  match (List.range ops.size).find? fun k => dstAt ops.toList k == some t && listed.getD k false with
  | some k => vals.getD k .dead
  | none => fr t

theorem frD_in {ops : Array Oper} {vals : List T} {fr : Nat → T} {listed : Array Bool} {t k : Nat} (hu : DrawOk ops) (hd : dstAt ops.toList k = some t) (hl : listed.getD k false = true) : frD ops vals fr listed t = vals.getD k .dead := by
  unfold frD
  split
  · rename_i k' hk'
    have := List.find?_some hk'
    simp only [Bool.and_eq_true, beq_iff_eq] at this
    rw [hu.uniq k' k t this.1 hd]
  · rename_i hn
    have hlt : k < ops.size := by
      unfold dstAt at hd
      obtain ⟨o, ho, _⟩ := Option.bind_eq_some_iff.1 hd
      have := (List.getElem?_eq_some_iff.1 ho).1
      simpa using this
    have := List.find?_eq_none.1 hn k (List.mem_range.2 hlt)
    simp [hd, hl] at this

theorem frD_out {ops : Array Oper} {vals : List T} {fr : Nat → T} {listed : Array Bool} {t : Nat} (h : ∀ k, dstAt ops.toList k = some t → listed.getD k false = false) : frD ops vals fr listed t = fr t := by
  unfold frD
  split
  · rename_i k' hk'
    have := List.find?_some hk'
    simp only [Bool.and_eq_true, beq_iff_eq] at this
    rw [h k' this.1] at this
    simp at this
  · rfl

end Go.TL
