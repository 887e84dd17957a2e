/- Stores on trees. No conditions. -/
import Derived.Test.YtdnclbghhdflmaaTCut
import Derived.Laws.IdiomCopy
namespace Go.TL
open Go.RowKit

theorem Wrote.setCell {w : World} {b o : Nat} {v : Value} : Wrote w (w.setCell ⟨b, o, none⟩ v) b := by
  refine ⟨rfl, rfl, rfl, by simp [World.setCell], fun k hk => Below.heap_setCell _ _ _ _ hk, fun arr ty mk h => ⟨arr.setIfInBounds o v, ?_, by simp⟩⟩
  simp only [World.setCell, Array.getElem?_modify, if_true, h, Option.map_some]
  rfl

theorem heap_setCell_same {w : World} {b o : Nat} {v : Value} {arr : Array Value} {ty : TypeId} {mk : Nat × Nat} (h : w.heap[b]? = some (.cells arr ty mk)) :
    (w.setCell ⟨b, o, none⟩ v).heap[b]? = some (.cells (arr.setIfInBounds o v) ty mk) := by
  simp only [World.setCell, Array.getElem?_modify, if_true, h, Option.map_some]
  rfl

theorem updAt_comp (f g : List T → List T) : ∀ (p : List Nat) (cs : List T), updAt g (updAt f cs p) p = updAt (fun c => g (f c)) cs p
  | [], _ => rfl
  | c :: p, cs => by
    cases hc : cs[c]? with
    | none => simp only [updAt, hc]
    | some x =>
      have hlt := (List.getElem?_eq_some_iff.1 hc).1
      match x, hc with
      | .sl true k n e cs', hc =>
        simp only [updAt, hc, List.getElem?_set_self hlt, List.set_set, updAt_comp f g p cs']
      | .sl false _ _ _ _, hc => simp only [updAt, hc]
      | .v _, hc => simp only [updAt, hc]
      | .ref _ _ _ _, hc => simp only [updAt, hc]
      | .ptr _ _ _, hc => simp only [updAt, hc]
      | .pz _ _ _, hc => simp only [updAt, hc]
      | .agg _, hc => simp only [updAt, hc]
      | .tup _, hc => simp only [updAt, hc]
      | .clo _ _, hc => simp only [updAt, hc]
      | .dead, hc => simp only [updAt, hc]

theorem Store.upd_upd (S : Store) (r : Nat) (p : List Nat) (f g : List T → List T) : (S.upd r p f).upd r p g = S.upd r p (fun c => g (f c)) := by
  unfold Store.upd
  cases hx : S[r]? with
  | none => simp [hx]
  | some x =>
    have hlt := (List.getElem?_eq_some_iff.1 hx).1
    simp only [List.getElem?_set_self hlt, List.set_set, updAt_comp]

theorem updAt_id : ∀ (p : List Nat) (cs : List T), updAt (fun c => c) cs p = cs
  | [], _ => rfl
  | c :: p, cs => by
    cases hc : cs[c]? with
    | none => simp only [updAt, hc]
    | some x =>
      match x, hc with
      | .sl true k n e cs', hc =>
        simp only [updAt, hc, updAt_id p cs']
        refine List.ext_getElem? fun i => ?_
        rw [List.getElem?_set]
        split
        · rename_i e; subst e; rw [hc, if_pos (List.getElem?_eq_some_iff.1 hc).1]
        · rfl
      | .sl false _ _ _ _, hc => simp only [updAt, hc]
      | .v _, hc => simp only [updAt, hc]
      | .ref _ _ _ _, hc => simp only [updAt, hc]
      | .ptr _ _ _, hc => simp only [updAt, hc]
      | .pz _ _ _, hc => simp only [updAt, hc]
      | .agg _, hc => simp only [updAt, hc]
      | .tup _, hc => simp only [updAt, hc]
      | .clo _ _, hc => simp only [updAt, hc]
      | .dead, hc => simp only [updAt, hc]

theorem Store.upd_id (S : Store) (r : Nat) (p : List Nat) : S.upd r p (fun c => c) = S := by
  unfold Store.upd
  cases hx : S[r]? with
  | none => rfl
  | some x =>
    simp only [updAt_id]
    refine List.ext_getElem? fun i => ?_
    rw [List.getElem?_set]
    split
    · rename_i e; subst e; rw [hx, if_pos (List.getElem?_eq_some_iff.1 hx).1]
    · rfl

/-- The node itself behind an update. -/
theorem cellsAt_updAt_self {any : Bool} {f : List T → List T} : ∀ (p : List Nat) (e : Nat) (cs : List T) (e0 : Nat) (cs0 : List T), cellsAt any e cs p = some (e0, cs0) → cellsAt any e (updAt f cs p) p = some (e0, f cs0)
  | [], e, cs, e0, cs0, h => by simp only [cellsAt, Option.some.injEq, Prod.mk.injEq] at h ⊢; obtain ⟨rfl, rfl⟩ := h; exact ⟨rfl, rfl⟩
  | c :: p, e, cs, e0, cs0, h => by
    unfold cellsAt at h
    split at h
    case h_2 => cases h
    rename_i k n e1 cs1 hc
    split at h
    case isFalse => cases h
    rename_i hk
    have hlt := (List.getElem?_eq_some_iff.1 hc).1
    have hu : updAt f cs (c :: p) = cs.set c (.sl true k n e1 (updAt f cs1 p)) := by
      show (match cs[c]? with | some (.sl true k n e cs') => cs.set c (.sl true k n e (updAt f cs' p)) | _ => cs) = _
      rw [hc]
    rw [hu]
    unfold cellsAt
    rw [List.getElem?_set_self hlt]
    simp only [hk, if_true]
    exact cellsAt_updAt_self p e1 cs1 e0 cs0 h

theorem Store.at_upd_self {any : Bool} {S : Store} {r : Nat} {p : List Nat} {f : List T → List T} {e0 : Nat} {cs0 : List T} (h : S.at any r p = some (e0, cs0)) : (S.upd r p f).at any r p = some (e0, f cs0) := by
  unfold Store.at Store.upd at *
  cases hx : S[r]? with
  | none => simp [hx] at h
  | some x =>
    have hlt := (List.getElem?_eq_some_iff.1 hx).1
    simp only [hx] at h
    split at h
    case isFalse => cases h
    rename_i hl
    simp only [List.getElem?_set_self hlt, hl, if_true]
    exact cellsAt_updAt_self p _ _ _ _ h

theorem set_noNew {e : Nat} {cs : List T} {j : Nat} {c : T} (hc : cellOk c = true) : ∀ any q2 x, q2 ≠ [] → cellsAt any e (cs.set j c) q2 = some x → cellsAt any e cs q2 = some x := by
  intro any q2 x hq h
  cases q2 with
  | nil => exact absurd rfl hq
  | cons i q =>
    unfold cellsAt at h ⊢
    rw [List.getElem?_set] at h
    by_cases e : j = i
    · subst e
      rw [if_pos rfl] at h
      split at h
      · rename_i k n e1 cs1 hh
        split at hh
        · cases hh; simp [cellOk] at hc
        · cases hh
      · cases h
    · rw [if_neg e] at h
      exact h

/-- One cell is written. -/
theorem store_one {E : Env} {w0 : World} (h : Inv E w0) {r : Nat} {p : List Nat} {e : Nat} {cs : List T} (hn : E.S.at false r p = some (e, cs)) {j : Nat} (hj : j < cs.length) {c : T} {v : Value}
    (hc : TR E c v) (h1 : v.oneCell' = true) (h2 : cellOk c = true) :
    Inv (E.upd (E.w.setCell ⟨E.φ r p, j, none⟩ v) r p (·.set j c)) w0 ∧ Evo E (E.upd (E.w.setCell ⟨E.φ r p, j, none⟩ v) r p (·.set j c)) ∧
      (∀ P, (store ⟨E.φ r p, j, none⟩ v).run P E.w = .ok () (E.w.setCell ⟨E.φ r p, j, none⟩ v)) := by
  have hn' := Store.at_any hn
  have ev := Evo.upd h (f := (·.set j c)) hn' (by simp) (set_noNew h2) (Wrote.setCell (v := v) (o := j))
  obtain ⟨arr, ty, mk, hb, hlen, hmk, hB, hcr⟩ := h.blk r p e cs hn'
  refine ⟨h.upd hn' (by simp) (set_noNew h2) Wrote.setCell ?_, ev, fun P => ?_⟩
  · intro arr' ty' mk' hb' i x hx
    rw [heap_setCell_same hb] at hb'
    cases hb'
    rw [List.getElem?_set] at hx
    by_cases ei : j = i
    · subst ei
      rw [if_pos rfl, if_pos hj] at hx
      cases hx
      have : (arr.setIfInBounds j v).getD j undef = v := by
        rw [Array.getD_eq_getD_getElem?, Array.getElem?_setIfInBounds_self_of_lt (by omega)]; rfl
      rw [this]
      exact (hc.evo ev).cell h2 h1 _ _ _
    · rw [if_neg ei] at hx
      have : (arr.setIfInBounds j v).getD i undef = arr.getD i undef := by
        rw [Array.getD_eq_getD_getElem?, Array.getElem?_setIfInBounds_ne ei, ← Array.getD_eq_getD_getElem?]
      rw [this]
      exact (hcr i x hx).evo ev Wrote.setCell.sized (fun _ _ _ _ _ => rfl)
  · rw [run_store P E.w _ v _ h1]
    have hcell : E.w.cell? ⟨E.φ r p, j, none⟩ = some (arr[j]'(by omega)) := by
      rw [cell_of_row _ _ _ _ _ _ hb, Array.getElem?_eq_getElem (by omega)]
    have hfr : E.w.frozen? ⟨E.φ r p, j, none⟩ = false := by
      have := hmk j (by omega)
      simp only [World.frozen?, hb]
      rw [Bool.eq_false_iff]
      intro hh
      simp only [Bool.and_eq_true, decide_eq_true_eq] at hh
      exact this hh
    rw [hcell]
    simp [hfr]

theorem RL.evo {E E' : Env} (h : Evo E E') {ts : List T} {vs : List Value} (k : RL E ts vs) : RL E' ts vs :=
  ⟨k.1, fun j c hj => by obtain ⟨v, h1, h2, h3⟩ := k.2 j c hj; exact ⟨v, h1, h2.evo h, h3⟩⟩

theorem store_list {P : Program} {w0 : World} {r : Nat} {p : List Nat} (off : Nat) : ∀ (ts : List T) (vs : List Value) (i : Nat) (E : Env) (e : Nat) (cs : List T), Inv E w0 → E.S.at false r p = some (e, cs) → off + i + ts.length ≤ cs.length → RL E ts vs →
    ∃ E', (storeCells ⟨E.φ r p, off, none⟩ vs i).run P E.w = .ok () E'.w ∧ E'.S = E.S.upd r p (fun c => setR c (off + i) ts) ∧ Inv E' w0 ∧ Evo E E'
  | [], vs, i, E, e, cs, h, hn, hl, k => by
    have : vs = [] := List.eq_nil_of_length_eq_zero (by simpa using k.1)
    subst this
    exact ⟨E, rfl, by simp only [setR]; rw [Store.upd_id], h, Evo.refl E⟩
  | t :: ts, [], i, E, e, cs, h, hn, hl, k => by have := k.1; simp at this
  | t :: ts, v :: vs, i, E, e, cs, h, hn, hl, k => by
    obtain ⟨v', hv, h1, h2, h3⟩ := k.2 0 t rfl
    simp only [List.getElem?_cons_zero, Option.some.injEq] at hv
    subst hv
    simp only [List.length_cons] at hl
    obtain ⟨g1, g2, g3⟩ := store_one h hn (j := off + i) (by omega) h1 h2 h3
    have hk : RL E ts vs := ⟨by simpa using k.1, fun j c hc => by simpa using k.2 (j + 1) c (by simpa using hc)⟩
    obtain ⟨E', r1, r2, r3, r4⟩ := store_list (P := P) off ts vs (i + 1) (E.upd (E.w.setCell ⟨E.φ r p, off + i, none⟩ v) r p (·.set (off + i) t)) e (cs.set (off + i) t) g1 (Store.at_upd_self hn) (by simp; omega) (hk.evo g2)
    refine ⟨E', ?_, ?_, r3, g2.trans r4⟩
    · rw [storeCells, Sem.run_bind, addr_add, g3 P]
      exact r1
    · rw [r2]
      simp only [Env.upd, Store.upd_upd, setR, Nat.add_assoc]

def storeT (P : Program) (S : Store) (t : TypeId) (x y : T) : Option Store :=
  match x with
  | .ptr r p off => match S.at false r p, szT P t with
    | some (_, cs), some sz => if sz = (compsT y).length ∧ off + sz ≤ cs.length ∧ storable S (compsT y) = true then some (S.upd r p (fun c => setR c off (compsT y))) else none
    | _, _ => none
  | _ => none

theorem store_run {P : Program} {o : Oper} {t : TypeId} {xo yo : Operand} (ho : o.op = .store t xo yo) {a : Act} {E : Env} {w0 : World} {n : Nat} {fr : Nat → T}
    (h : Inv E w0) (hf : FR E n fr a) {S' : Store} (hr : storeT P E.S t (ev fr xo) (ev fr yo) = some S') :
    ∃ E', (execOp a.eval o).run P E.w = .ok .skip E'.w ∧ E'.S = S' ∧ Inv E' w0 ∧ Evo E E' := by
  unfold storeT at hr
  split at hr
  case h_2 => cases hr
  rename_i r' p' off' hs
  split at hr
  case h_2 => cases hr
  rename_i e cs sz hat hsz
  split at hr
  case isFalse => cases hr
  rename_i hb
  obtain ⟨b1, b2, b3⟩ := hb
  cases hr
  have hx := hf.ev xo
  rw [hs] at hx
  generalize hval : a.eval xo = val at hx
  have hval2 : val = .pointer (some ⟨E.φ r' p', off', none⟩) := by
    cases hx with
    | ptr hr hh => exact hh _ hat
  have hrl := (hf.ev yo).rl b3
  obtain ⟨E', r1, r2, r3, r4⟩ := store_list (P := P) off' _ _ 0 E e cs h hat (by omega) hrl
  refine ⟨E', ?_, by rw [r2]; rfl, r3, r4⟩
  have hcs : (a.eval yo).cells.size = sz := by rw [b1, ← hrl.1, Array.length_toList]
  simp only [execOp, ho, hval, hval2, Sem.run_bind, Instr.storeAt, Instr.sureAddr, Sem.run_pure, Result.andThen_ok, storeVar, szT_run hsz]
  rw [if_neg (by rw [hcs]; simp)]
  rw [r1]
  rfl

end Go.TL
