/- Cells of a node are written. Lemmas on 'Inv' and 'Evo'. No conditions. -/
import Derived.Test.YtdnclbghhdflmaaTInv
namespace Go.TL
open Go.RowKit

def updAt (f : List T → List T) : List T → List Nat → List T
  | cs, [] => f cs
  | cs, c :: p => match cs[c]? with
    | some (.sl true k n e cs') => cs.set c (.sl true k n e (updAt f cs' p))
    | _ => cs

def Store.upd (S : Store) (r : Nat) (p : List Nat) (f : List T → List T) : Store :=
  match S[r]? with
  | some x => S.set r { x with cs := updAt f x.cs p }
  | none => S

theorem Store.upd_length (S : Store) (r : Nat) (p : List Nat) (f : List T → List T) : (S.upd r p f).length = S.length := by
  unfold Store.upd; split <;> simp

theorem cellsAt_append (any : Bool) (q : List Nat) : ∀ (p : List Nat) (e : Nat) (cs : List T), cellsAt any e cs (p ++ q) = (cellsAt any e cs p).bind fun x => cellsAt any x.1 x.2 q := by
  intro p
  induction p with
  | nil => intro e cs; rfl
  | cons c p ih =>
    intro e cs
    show (match cs[c]? with | some (.sl true k _ e' cs') => if any || k == 0 then cellsAt any e' cs' (p ++ q) else none | _ => none) =
      (match cs[c]? with | some (.sl true k _ e' cs') => if any || k == 0 then cellsAt any e' cs' p else none | _ => none).bind fun x => cellsAt any x.1 x.2 q
    split
    · split
      · exact ih _ _
      · rfl
    · rfl

theorem Store.at_append (any : Bool) (S : Store) (r : Nat) (p q : List Nat) : S.at any r (p ++ q) = (S.at any r p).bind fun x => cellsAt any x.1 x.2 q := by
  unfold Store.at
  cases hx : S[r]? with
  | none => rfl
  | some x =>
    simp only
    split
    · exact cellsAt_append any q p _ _
    · rfl

/-- The same cells but for what lies within cells of their own. -/
def Heads (a b : List T) : Prop := a.length = b.length ∧ ∀ (j : Nat) (x : T), b[j]? = some x → a[j]? = some x ∨ ∃ k n e cs cs', a[j]? = some (.sl true k n e cs) ∧ x = .sl true k n e cs' ∧ cs'.length = cs.length

theorem Heads.refl (a : List T) : Heads a a := ⟨rfl, fun _ _ h => .inl h⟩

theorem updAt_length {f : List T → List T} {cs : List T} {p : List Nat} {any : Bool} {e e0 : Nat} {cs0 : List T} (h : cellsAt any e cs p = some (e0, cs0)) (hf : (f cs0).length = cs0.length) :
    (updAt f cs p).length = cs.length := by
  cases p with
  | nil => simp only [cellsAt, Option.some.injEq, Prod.mk.injEq] at h; simp only [updAt]; rw [h.2]; exact hf
  | cons c p => unfold updAt; split <;> simp

/-- Where a node is behind an update: it is the node itself or below it, or it was there. -/
theorem cellsAt_updAt {f : List T → List T} {any : Bool} : ∀ (p : List Nat) (cs : List T) (e : Nat) (e0 : Nat) (cs0 : List T), cellsAt true e cs p = some (e0, cs0) → (f cs0).length = cs0.length →
    ∀ (q : List Nat) (e' : Nat) (cs'' : List T), cellsAt any e (updAt f cs p) q = some (e', cs'') →
      (∃ q2, q = p ++ q2 ∧ cellsAt any e0 (f cs0) q2 = some (e', cs'') ∧ (any = true ∨ cellsAt any e cs p = some (e0, cs0))) ∨
      (∃ cs', cellsAt any e cs q = some (e', cs') ∧ Heads cs' cs'' ∧ ∀ q2, q ≠ p ++ q2) := by
  intro p
  induction p with
  | nil =>
    intro cs e e0 cs0 h hf q e' cs'' hq
    simp only [cellsAt, Option.some.injEq, Prod.mk.injEq] at h
    obtain ⟨rfl, rfl⟩ := h
    exact .inl ⟨q, rfl, hq, .inr rfl⟩
  | cons c p ih =>
    intro cs e e0 cs0 h hf q e' cs'' hq
    unfold cellsAt at h
    split at h
    case h_2 => cases h
    rename_i k n e1 cs1 hc
    simp only [Bool.true_or, if_true] at h
    have hlt := (List.getElem?_eq_some_iff.1 hc).1
    have hu : updAt f cs (c :: p) = cs.set c (.sl true k n e1 (updAt f cs1 p)) := by
      show (match cs[c]? with | some (.sl true k n e cs') => cs.set c (.sl true k n e (updAt f cs' p)) | _ => cs) = _
      rw [hc]
    rw [hu] at hq
    cases q with
    | nil =>
      simp only [cellsAt, Option.some.injEq, Prod.mk.injEq] at hq
      obtain ⟨rfl, rfl⟩ := hq
      refine .inr ⟨cs, rfl, ⟨by simp, fun j x hj => ?_⟩, by simp⟩
      rw [List.getElem?_set] at hj
      split at hj
      · rename_i ej
        subst ej
        cases hj
        exact .inr ⟨k, n, e1, cs1, _, hc, rfl, updAt_length h hf⟩
      · exact .inl hj
    | cons d q =>
      unfold cellsAt at hq
      by_cases ed : d = c
      · subst ed
        rw [List.getElem?_set_self hlt] at hq
        simp only at hq
        split at hq
        case isFalse => cases hq
        rename_i hk
        rcases ih cs1 e1 e0 cs0 h hf q e' cs'' hq with ⟨q2, h1, h2, h3⟩ | ⟨cs', h1, h2, h3⟩
        · refine .inl ⟨q2, by rw [h1]; rfl, h2, ?_⟩
          rcases h3 with h3 | h3
          · exact .inl h3
          · refine .inr ?_
            unfold cellsAt
            rw [hc]
            simp only [hk, if_true, h3]
        · refine .inr ⟨cs', ?_, h2, fun q2 hq2 => h3 q2 (by simpa using hq2)⟩
          unfold cellsAt
          rw [hc]
          simp only [hk, if_true, h1]
      · rw [List.getElem?_set_ne (by omega)] at hq
        refine .inr ⟨cs'', ?_, Heads.refl _, fun q2 hq2 => ed (by simpa using (List.cons.inj hq2).1)⟩
        unfold cellsAt
        exact hq

theorem Store.at_upd {S : Store} {r : Nat} {p : List Nat} {f : List T → List T} {e0 : Nat} {cs0 : List T} (h : S.at true r p = some (e0, cs0)) (hf : (f cs0).length = cs0.length)
    {any : Bool} {r' : Nat} {q : List Nat} {e' : Nat} {cs'' : List T} (hq : (S.upd r p f).at any r' q = some (e', cs'')) :
    (r' = r ∧ ∃ q2, q = p ++ q2 ∧ cellsAt any e0 (f cs0) q2 = some (e', cs'') ∧ (any = true ∨ S.at any r p = some (e0, cs0))) ∨
    (∃ cs', S.at any r' q = some (e', cs') ∧ Heads cs' cs'' ∧ ∀ q2, ¬ (r' = r ∧ q = p ++ q2)) := by
  unfold Store.at at h hq ⊢
  unfold Store.upd at hq
  cases hx : S[r]? with
  | none => simp [hx] at h
  | some x =>
    simp only [hx] at h hq ⊢
    split at h
    case isFalse => cases h
    rename_i hl
    have hlt := (List.getElem?_eq_some_iff.1 hx).1
    by_cases er : r' = r
    · subst er
      rw [List.getElem?_set_self hlt] at hq
      simp only [hl, if_true] at hq
      simp only [hx, hl, if_true]
      rcases cellsAt_updAt p x.cs x.e e0 cs0 h hf q e' cs'' hq with h1 | ⟨cs', h1, h2, h3⟩
      · exact .inl ⟨by trivial, h1⟩
      · exact .inr ⟨cs', h1, h2, fun q2 hh => h3 q2 hh.2⟩
    · rw [List.getElem?_set_ne (by omega)] at hq
      exact .inr ⟨cs'', hq, Heads.refl _, fun q2 hh => er hh.1⟩

def Env.upd (E : Env) (w' : World) (r : Nat) (p : List Nat) (f : List T → List T) : Env := { E with w := w', S := E.S.upd r p f }

/-- One block written, its cells anew; no new nodes. -/
structure Wrote (w w' : World) (b : Nat) : Prop where
  os : w'.os = w.os
  tape : w'.tape = w.tape
  output : w'.output = w.output
  size : w'.heap.size = w.heap.size
  other : ∀ k, k ≠ b → w'.heap[k]? = w.heap[k]?
  same : ∀ (arr : Array Value) (ty : TypeId) (mk : Nat × Nat), w.heap[b]? = some (Obj.cells arr ty mk) → ∃ arr' : Array Value, w'.heap[b]? = some (Obj.cells arr' ty mk) ∧ arr'.size = arr.size

theorem Wrote.sized {w w' : World} {b : Nat} (h : Wrote w w' b) : Sized w w' := fun k arr ty mk hk => by
  by_cases e : k = b
  · subst e; exact h.same arr ty mk hk
  · exact ⟨arr, (h.other k e).trans hk, rfl⟩

theorem Wrote.trans {w w1 w2 : World} {b : Nat} (h : Wrote w w1 b) (k : Wrote w1 w2 b) : Wrote w w2 b :=
  ⟨k.os.trans h.os, k.tape.trans h.tape, k.output.trans h.output, k.size.trans h.size, fun i hi => (k.other i hi).trans (h.other i hi), fun arr ty mk hh => by
    obtain ⟨a1, h1, s1⟩ := h.same arr ty mk hh
    obtain ⟨a2, h2, s2⟩ := k.same a1 ty mk h1
    exact ⟨a2, h2, s2.trans s1⟩⟩

/-- Whatever is a node behind an update was one ahead of it. -/
theorem Store.at_upd_old {S : Store} {r : Nat} {p : List Nat} {f : List T → List T} {e0 : Nat} {cs0 : List T} (hn : S.at true r p = some (e0, cs0)) (hf : (f cs0).length = cs0.length)
    (hnew : ∀ any q2 x, q2 ≠ [] → cellsAt any e0 (f cs0) q2 = some x → cellsAt any e0 cs0 q2 = some x)
    {any : Bool} {r' : Nat} {q : List Nat} {e' : Nat} {cs'' : List T} (hq : (S.upd r p f).at any r' q = some (e', cs'')) :
    ∃ cs', S.at any r' q = some (e', cs') ∧ ((r' = r ∧ q = p ∧ cs' = cs0 ∧ cs'' = f cs0 ∧ e' = e0) ∨ (Heads cs' cs'' ∧ ¬ (r' = r ∧ q = p))) := by
  rcases Store.at_upd hn hf hq with ⟨rfl, q2, h1, h2, h3⟩ | ⟨cs', h1, h2, h3⟩
  · have hany : S.at any r' p = some (e0, cs0) := by
      rcases h3 with h3 | h3
      · subst h3; exact hn
      · exact h3
    by_cases e2 : q2 = []
    · subst e2
      simp only [cellsAt, Option.some.injEq, Prod.mk.injEq] at h2
      obtain ⟨rfl, rfl⟩ := h2
      rw [List.append_nil] at h1
      subst h1
      exact ⟨cs0, hany, .inl ⟨rfl, rfl, rfl, rfl, rfl⟩⟩
    · refine ⟨cs'', ?_, .inr ⟨Heads.refl _, fun hh => e2 (by have := h1.symm.trans hh.2; simpa using this)⟩⟩
      rw [h1, Store.at_append, hany]
      exact hnew any q2 _ e2 h2
  · exact ⟨cs', h1, .inr ⟨h2, fun hh => h3 [] ⟨hh.1, by simpa using hh.2⟩⟩⟩

theorem Evo.upd {E : Env} {w0 : World} (_h : Inv E w0) {r : Nat} {p : List Nat} {f : List T → List T} {e0 : Nat} {cs0 : List T} (hn : E.S.at true r p = some (e0, cs0)) (hf : (f cs0).length = cs0.length)
    (hnew : ∀ any q2 x, q2 ≠ [] → cellsAt any e0 (f cs0) q2 = some x → cellsAt any e0 cs0 q2 = some x) {w' : World} (hw : Wrote E.w w' (E.φ r p)) : Evo E (E.upd w' r p f) := by
  refine ⟨rfl, rfl, rfl, by simp [Env.upd, Store.upd_length], fun k b hb => ?_, fun r' q e cs' hr hx => ?_⟩
  · have hne : b ≠ E.φ r p := by
      rintro rfl
      exact hb.2.1 ⟨r, p, _, hn, rfl⟩
    obtain ⟨h1, h4, h3⟩ := hb
    refine ⟨⟨by show b < w'.heap.size; rw [hw.size]; exact h1, ?_, h3⟩, hw.other b hne⟩
    rintro ⟨r', q, x, hx, hb⟩
    obtain ⟨cs', h5, _⟩ := Store.at_upd_old hn hf hnew (e' := x.1) (cs'' := x.2) hx
    exact h4 ⟨r', q, _, h5, hb⟩
  · obtain ⟨cs1, h5, _⟩ := Store.at_upd_old hn hf hnew hx
    refine ⟨⟨cs1, h5⟩, rfl, fun arr ty mk ha => ?_⟩
    exact hw.sized _ _ _ _ ha

theorem Inv.upd {E : Env} {w0 : World} (h : Inv E w0) {r : Nat} {p : List Nat} {f : List T → List T} {e0 : Nat} {cs0 : List T} (hn : E.S.at true r p = some (e0, cs0)) (hf : (f cs0).length = cs0.length)
    (hnew : ∀ any q2 x, q2 ≠ [] → cellsAt any e0 (f cs0) q2 = some x → cellsAt any e0 cs0 q2 = some x) {w' : World} (hw : Wrote E.w w' (E.φ r p))
    (hc : ∀ (arr' : Array Value) ty mk, w'.heap[E.φ r p]? = some (.cells arr' ty mk) → ∀ j c, (f cs0)[j]? = some c → CR (E.upd w' r p f) r p j c (arr'.getD j undef)) : Inv (E.upd w' r p f) w0 := by
  have ev := Evo.upd h hn hf hnew hw
  refine ⟨⟨hw.os.trans h.below.os, hw.tape.trans h.below.tape, hw.output.trans h.below.output, by show _ ≤ w'.heap.size; rw [hw.size]; exact h.below.size, fun k hk => ?_⟩, h.hB, h.hN, fun r' q e cs'' hx => ?_, fun r1 p1 x1 r2 p2 x2 h1 h2 hb => ?_, fun r1 p1 x1 h1 hlt => ?_⟩
  · have := (Env.own_lt h ⟨r, p, _, hn, rfl⟩).1
    have hB : E.B ≤ E.φ r p := this
    exact (hw.other k (by have : k < E.B := hk; omega)).trans (h.below.block k hk)
  · obtain ⟨cs', h5, h6⟩ := Store.at_upd_old hn hf hnew hx
    obtain ⟨arr, ty, mk, a1, a2, a3, a4, a5⟩ := h.blk r' q e cs' h5
    obtain ⟨arr', b1, b2⟩ := hw.sized _ _ _ _ a1
    rcases h6 with ⟨rfl, rfl, rfl, rfl, rfl⟩ | ⟨h6, h7⟩
    · exact ⟨arr', ty, mk, b1, by omega, by rw [b2]; exact a3, a4, hc arr' ty mk b1⟩
    · have hne : E.φ r' q ≠ E.φ r p := fun hh => h7 (h.inj _ _ _ _ _ _ h5 hn hh)
      refine ⟨arr, ty, mk, (hw.other _ hne).trans a1, by have := h6.1; omega, a3, a4, fun j c hj => ?_⟩
      rcases h6.2 j c hj with h8 | ⟨k, n, e1, c1, c2, h8, rfl, h9⟩
      · exact (a5 j c h8).evo ev hw.sized (fun _ _ _ _ _ => rfl)
      · have h10 := a5 j _ h8
        cases h10 with
        | own hn' hv => exact .own (h9.trans hn') (hv.evo (hw.sized _))
  · obtain ⟨c1, h5, _⟩ := Store.at_upd_old hn hf hnew (e' := x1.1) (cs'' := x1.2) h1
    obtain ⟨c2, h6, _⟩ := Store.at_upd_old hn hf hnew (e' := x2.1) (cs'' := x2.2) h2
    exact h.inj _ _ _ _ _ _ h5 h6 hb
  · obtain ⟨c1, h5, _⟩ := Store.at_upd_old hn hf hnew (e' := x1.1) (cs'' := x1.2) h1
    exact h.frz _ _ _ h5 hlt

end Go.TL
