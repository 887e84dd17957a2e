/- A row of the call's own that is written no more, seen as frozen. No conditions. -/
import Derived.Test.YtdnclbghhdflmaaTGc
namespace Go.TL
open Go.RowKit

/-- A cell without a node of its own and without a reference. -/
def flatC : T → Bool
  | .v _ => true
  | .sl false k _ _ _ => k == 0
  | _ => false

/-- What a reference to a root is once the root is frozen. -/
def fzRef (x : Root) (off n : Nat) : T :=
  if x.live = true ∧ off + n * x.e ≤ x.cs.length ∧ x.cs.all flatC = true then .sl false 0 n x.e ((x.cs.drop off).take (n * x.e)) else .dead

mutual
def fzT (x : Root) (r : Nat) : T → T
  | .sl true k n e cs => .sl true k n e (fzTs x r cs)
  | .ref r' p off n => if r' = r then (match p with | [] => fzRef x off n | _ => .dead) else .ref r' p off n
  | .ptr r' p off => if r' = r then .dead else .ptr r' p off
  | .agg cs => .agg (fzTs x r cs)
  | .tup cs => .tup (fzTs x r cs)
  | .clo f cs => .clo f (fzTs x r cs)
  | t => t
def fzTs (x : Root) (r : Nat) : List T → List T
  | [] => []
  | c :: cs => fzT x r c :: fzTs x r cs
end

theorem fzTs_map (x : Root) (r : Nat) : ∀ cs : List T, fzTs x r cs = cs.map (fzT x r)
  | [] => rfl
  | c :: cs => by rw [fzTs, fzTs_map x r cs]; rfl

theorem fzTs_length (x : Root) (r : Nat) (cs : List T) : (fzTs x r cs).length = cs.length := by rw [fzTs_map, List.length_map]

theorem fz_noown (x : Root) (r : Nat) (c : T) (k n e : Nat) (cs : List T) (h : fzT x r c = .sl true k n e cs) : ∃ cs', c = .sl true k n e cs' ∧ cs = fzTs x r cs' := by
  cases c with
  | sl own =>
    cases own with
    | false => simp [fzT] at h
    | true => simp only [fzT, T.sl.injEq] at h; obtain ⟨_, rfl, rfl, rfl, rfl⟩ := h; exact ⟨_, rfl, rfl⟩
  | ref r' p off n' =>
    simp only [fzT] at h
    split at h
    · cases p with
      | nil => simp only [fzRef] at h; split at h <;> cases h
      | cons => cases h
    · cases h
  | ptr r' p off => simp only [fzT] at h; split at h <;> cases h
  | _ => simp [fzT] at h

theorem cellsAt_fzTs (x : Root) (r : Nat) (any : Bool) : ∀ (p : List Nat) (e : Nat) (cs : List T), cellsAt any e (fzTs x r cs) p = (cellsAt any e cs p).map fun y => (y.1, fzTs x r y.2)
  | [], e, cs => rfl
  | c :: p, e, cs => by
    unfold cellsAt
    rw [fzTs_map, List.getElem?_map]
    cases hc : cs[c]? with
    | none => rfl
    | some t =>
      cases t with
      | sl own k n e' cs' =>
        cases own with
        | false => rfl
        | true =>
          simp only [Option.map_some, fzT]
          split
          · exact cellsAt_fzTs x r any p e' cs'
          · rfl
      | ref r' p' off n =>
        simp only [Option.map_some, fzT]
        by_cases hr : r' = r
        · simp only [if_pos hr]
          cases p' with
          | nil =>
            simp only [fzRef]
            by_cases hc2 : x.live = true ∧ off + n * x.e ≤ x.cs.length ∧ x.cs.all flatC = true
            · simp only [if_pos hc2]; rfl
            · simp only [if_neg hc2]; rfl
          | cons => rfl
        · simp only [if_neg hr]; rfl
      | ptr r' p' off =>
        simp only [Option.map_some, fzT]
        by_cases hr : r' = r
        · simp only [if_pos hr]; rfl
        · simp only [if_neg hr]; rfl
      | _ => rfl

def rootAt (S : Store) (r : Nat) : Root := (S[r]?).getD ⟨0, false, []⟩
def fzS (r : Nat) (S : Store) : Store := (S.kill r).map fun y => ⟨y.e, y.live, fzTs (rootAt S r) r y.cs⟩

def Env.fz (E : Env) (r : Nat) : Env := { E with S := fzS r E.S }

section
variable {E : Env} {w0 : World} {r : Nat}

theorem fz_at {any : Bool} {S : Store} {r' : Nat} {p : List Nat} : (fzS r S).at any r' p = if r' = r then none else (S.at any r' p).map fun y => (y.1, fzTs (rootAt S r) r y.2) := by
  have hk := Store.at_kill (any := any) (S := S) (r := r) (r' := r') (p := p)
  have : (fzS r S).at any r' p = ((S.kill r).at any r' p).map fun y => (y.1, fzTs (rootAt S r) r y.2) := by
    unfold Store.at fzS
    rw [List.getElem?_map]
    cases (S.kill r)[r']? with
    | none => rfl
    | some y =>
      simp only [Option.map_some]
      split
      · exact cellsAt_fzTs _ _ _ _ _ _
      · rfl
  rw [this, hk]
  split <;> rfl

theorem fz_at_of {any : Bool} {r' : Nat} {p : List Nat} {x : Nat × List T} (hx : (E.fz r).S.at any r' p = some x) : r' ≠ r ∧ ∃ x1, E.S.at any r' p = some x1 ∧ x = (x1.1, fzTs (rootAt E.S r) r x1.2) := by
  have hx' : (fzS r E.S).at any r' p = some x := hx
  rw [fz_at] at hx'
  split at hx'
  · cases hx'
  · rename_i hne
    obtain ⟨x1, h1, rfl⟩ := Option.map_eq_some_iff.1 hx'
    exact ⟨hne, x1, h1, rfl⟩

theorem fz_len : (E.fz r).S.length = E.S.length := by
  show (fzS r E.S).length = _
  rw [fzS, List.length_map, Store.kill_length]

theorem fz_own {b : Nat} (h : (E.fz r).own b) : E.own b := by
  obtain ⟨r', p, x, hx, hb⟩ := h
  obtain ⟨_, x1, h1, _⟩ := fz_at_of hx
  exact ⟨r', p, x1, h1, hb⟩

theorem fz_okz {k b : Nat} (h : E.okz k b) : (E.fz r).okz k b := ⟨h.1, fun ho => h.2.1 (fz_own ho), h.2.2⟩

/-- The frozen root's block. -/
theorem fz_new (h : Inv E w0) {x : Nat × List T} (hx : E.S.at true r [] = some x) : (E.fz r).okz 0 (E.φ r []) := by
  refine ⟨(Env.own_lt h ⟨r, [], x, hx, rfl⟩).2, ?_, fun hlt => h.frz r [] x hx hlt⟩
  rintro ⟨r', p, y, hy, hb⟩
  obtain ⟨hne, x1, h1, _⟩ := fz_at_of hy
  exact hne (h.inj _ _ _ _ _ _ h1 hx hb).1

theorem fz_flat {p : List Nat} {j : Nat} {c : T} {v : Value} (hcr : CR E r p j c v) (hc : flatC c = true) : FzR E.w ((E.fz r).okz 0) c v := by
  cases hcr with
  | v _ hv => exact .v _ hv
  | fz hz =>
    rename_i k n e cs
    have hk : k = 0 := by simpa [flatC] using hc
    subst hk
    exact hz.evo fun b hb => ⟨fz_okz hb, rfl⟩
  | own _ _ => cases hc
  | ref _ _ => cases hc
  | dead _ _ => cases hc

theorem fz_ref (h : Inv E w0) {off n : Nat} {v : Value} (ht : TR E (.ref r [] off n) v) : TR (E.fz r) (fzRef (rootAt E.S r) off n) v := by
  unfold fzRef
  split
  · rename_i hc
    obtain ⟨hl, hn, hfl⟩ := hc
    cases ht with
    | ref hr hh =>
      have hat : E.S.at false r [] = some ((rootAt E.S r).e, (rootAt E.S r).cs) := by
        unfold Store.at rootAt at *
        rw [List.getElem?_eq_getElem hr] at hl ⊢
        simp only [Option.getD_some] at hl ⊢
        rw [if_pos hl]; rfl
      generalize rootAt E.S r = x at *
      obtain ⟨cap, arr', ty', mk', b1, b2, b3, rfl⟩ := hh _ _ hat
      have hat' := Store.at_any hat
      obtain ⟨arr, ty, mk, a1, a2, a3, a4, a5⟩ := h.blk r [] x.e x.cs hat'
      refine .sl (.sl (E.φ r []) off (fun j => arr.getD (off + j) undef) (by rw [List.length_take, List.length_drop]; omega) b2 (.inr ⟨rfl, fz_new h hat'⟩) (fun i c hi => ?_) (fun i c hi => ?_))
      all_goals
        have hi' : x.cs[off + i]? = some c := by
          rw [List.getElem?_take] at hi
          split at hi
          · rw [List.getElem?_drop] at hi; exact hi
          · cases hi
        have hlt := (List.getElem?_eq_some_iff.1 hi').1
      · show E.w.cell? _ = _
        rw [cell_of_row _ _ _ _ _ _ a1, Array.getD_eq_getD_getElem?, Array.getElem?_eq_getElem (by omega)]; rfl
      · exact fz_flat (a5 _ c hi') (List.all_eq_true.1 hfl c (List.mem_of_getElem? hi'))
  · exact .dead _

theorem fz_tr (h : Inv E w0) : ∀ (t : T) (v : Value), TR E t v → TR (E.fz r) (fzT (rootAt E.S r) r t) v
  | .v x, v, ht => by cases ht; exact .v _
  | .sl false k n e cs, v, ht => by
    cases ht with
    | sl hz => exact .sl (hz.evo fun b hb => ⟨fz_okz hb, rfl⟩)
  | .sl true k n e cs, v, ht => by cases ht
  | .ref r' p off n, v, ht => by
    simp only [fzT]
    split
    · rename_i hr
      subst hr
      cases p with
      | nil => exact fz_ref h ht
      | cons => exact .dead _
    · rename_i hne
      cases ht with
      | ref hr hh =>
        refine .ref (by rw [fz_len]; exact hr) fun e cs hx => ?_
        obtain ⟨_, x1, h1, h2⟩ := fz_at_of hx
        simp only [Prod.mk.injEq] at h2
        obtain ⟨rfl, rfl⟩ := h2
        exact hh x1.1 x1.2 h1
  | .ptr r' p off, v, ht => by
    simp only [fzT]
    split
    · exact .dead _
    · cases ht with
      | ptr hr hh =>
        refine .ptr (by rw [fz_len]; exact hr) fun x hx => ?_
        obtain ⟨_, x1, h1, h2⟩ := fz_at_of hx
        exact hh x1 h1
  | .pz k cs off, v, ht => by
    cases ht with
    | pz f hok hcell hrec => exact .pz f (fz_okz hok) hcell (fun j c hj => (hrec j c hj).evo fun b hb => ⟨fz_okz hb, rfl⟩)
  | .agg cs, v, ht => by
    cases ht with
    | agg hs hh =>
      rw [fzT, fzTs_map]
      refine .agg (by rw [List.length_map]; exact hs) fun i t hi => ?_
      rw [List.getElem?_map] at hi
      obtain ⟨c, hc, rfl⟩ := Option.map_eq_some_iff.1 hi
      exact fz_tr h c _ (hh i c hc)
  | .tup cs, v, ht => by
    cases ht with
    | tup hs hh =>
      rw [fzT, fzTs_map]
      refine .tup (by rw [List.length_map]; exact hs) fun i t hi => ?_
      rw [List.getElem?_map] at hi
      obtain ⟨c, hc, rfl⟩ := Option.map_eq_some_iff.1 hi
      exact fz_tr h c _ (hh i c hc)
  | .clo f cs, v, ht => by
    cases ht with
    | clo hs hh =>
      rw [fzT, fzTs_map]
      refine .clo (by rw [List.length_map]; exact hs) fun i t hi => ?_
      rw [List.getElem?_map] at hi
      obtain ⟨c, hc, rfl⟩ := Option.map_eq_some_iff.1 hi
      exact fz_tr h c _ (hh i c hc)
  | .dead, v, _ => .dead _
termination_by t => SizeOf.sizeOf t
decreasing_by
  all_goals
    have h1 := List.mem_of_getElem? hc
    have h2 := List.sizeOf_lt_of_mem h1
    simp only [T.agg.sizeOf_spec, T.tup.sizeOf_spec, T.clo.sizeOf_spec]
    omega

theorem fz_shape (x : Root) (r r' : Nat) (p : List Nat) (off n : Nat) : (∃ k m e cs, fzT x r (.ref r' p off n) = .sl false k m e cs) ∨ fzT x r (.ref r' p off n) = .dead ∨ fzT x r (.ref r' p off n) = .ref r' p off n := by
  by_cases hr : r' = r
  · cases p with
    | nil =>
      by_cases hc2 : x.live = true ∧ off + n * x.e ≤ x.cs.length ∧ x.cs.all flatC = true
      · exact .inl ⟨0, n, x.e, (x.cs.drop off).take (n * x.e), by simp only [fzT, if_pos hr, fzRef, if_pos hc2]⟩
      · exact .inr (.inl (by simp only [fzT, if_pos hr, fzRef, if_neg hc2]))
    | cons => exact .inr (.inl (by simp only [fzT, if_pos hr]))
  · exact .inr (.inr (by simp only [fzT, if_neg hr]))

theorem fz_cr {E' : Env} {i : Nat} {p : List Nat} {j : Nat} {t : T} {v : Value} (ht : TR E' t v) (hv : v.oneCell' = true) {r' : Nat} {p' : List Nat} {off n : Nat} (hs : (∃ k m e cs, t = .sl false k m e cs) ∨ t = .dead ∨ t = .ref r' p' off n) : CR E' i p j t v := by
  rcases hs with ⟨_, _, _, _, rfl⟩ | rfl | rfl
  · cases ht with
    | sl hz => exact .fz hz
  · exact .dead _ hv
  · exact .ref hv ht

theorem fz_inv (h : Inv E w0) : Inv (E.fz r) w0 := by
  refine ⟨h.below, h.hB, h.hN, fun i p e cs hx => ?_, fun i p x i' p' x' hx hx' hb => ?_, fun i p x hx hlt => ?_⟩
  · obtain ⟨h1, x1, h2, h3⟩ := fz_at_of hx
    simp only [Prod.mk.injEq] at h3
    obtain ⟨rfl, rfl⟩ := h3
    obtain ⟨arr, ty, mk, a1, a2, a3, a4, a5⟩ := h.blk i p x1.1 x1.2 h2
    refine ⟨arr, ty, mk, a1, by rw [fzTs_length]; exact a2, a3, a4, fun j c hc => ?_⟩
    rw [fzTs_map, List.getElem?_map] at hc
    obtain ⟨c1, hc1, rfl⟩ := Option.map_eq_some_iff.1 hc
    have hcr := a5 j c1 hc1
    cases hcr with
    | v _ hv => exact .v _ hv
    | fz hz => exact .fz (hz.evo fun b hb => ⟨fz_okz hb, rfl⟩)
    | own hn hv => exact .own (by rw [fzTs_length]; exact hn) hv
    | ref hv ht =>
      exact fz_cr (fz_tr (r := r) h _ _ ht) hv (fz_shape _ _ _ _ _ _)
    | dead _ hv => exact .dead _ hv
  · obtain ⟨_, x1, h1, _⟩ := fz_at_of hx
    obtain ⟨_, x2, h2, _⟩ := fz_at_of hx'
    exact h.inj _ _ _ _ _ _ h1 h2 hb
  · obtain ⟨_, x1, h1, _⟩ := fz_at_of hx
    exact h.frz _ _ _ h1 hlt

theorem fz_evo {E0 : Env} (ev : Evo E0 E) : Evo E0 (E.fz r) := by
  refine ⟨ev.B, ev.N, ev.K, by rw [fz_len]; exact ev.len, fun k b hb => ⟨fz_okz (ev.fz k b hb).1, (ev.fz k b hb).2⟩, fun r' p e cs' hr hx => ?_⟩
  obtain ⟨_, x1, h1, h3⟩ := fz_at_of hx
  simp only [Prod.mk.injEq] at h3
  obtain ⟨rfl, rfl⟩ := h3
  exact ev.node r' p x1.1 x1.2 hr h1

end

/-- Several roots frozen, one behind the other. -/
def fzAllS : List Nat → Store → Store
  | [], S => S
  | r :: l, S => fzAllS l (fzS r S)
def fzAllT : List Nat → Store → T → T
  | [], _, t => t
  | r :: l, S, t => fzAllT l (fzS r S) (fzT (rootAt S r) r t)

theorem fzAll_env {w0 : World} {E0 : Env} : ∀ (l : List Nat) (E : Env), Inv E w0 → Evo E0 E → ∃ E2, E2.w = E.w ∧ E2.S = fzAllS l E.S ∧ Inv E2 w0 ∧ Evo E0 E2 ∧ (∀ t v, TR E t v → TR E2 (fzAllT l E.S t) v)
  | [], E, h, ev => ⟨E, rfl, rfl, h, ev, fun _ _ ht => ht⟩
  | r :: l, E, h, ev => by
    obtain ⟨E2, h1, h2, h3, h4, h5⟩ := fzAll_env l (E.fz r) (fz_inv h) (fz_evo ev)
    exact ⟨E2, h1, h2, h3, h4, fun t v ht => h5 _ _ (fz_tr h t v ht)⟩

theorem fzS_length (r : Nat) (S : Store) : (fzS r S).length = S.length := by rw [fzS, List.length_map, Store.kill_length]
theorem fzAllS_length : ∀ (l : List Nat) (S : Store), (fzAllS l S).length = S.length
  | [], _ => rfl
  | r :: l, S => by rw [fzAllS, fzAllS_length l, fzS_length]

/-- Less said of a value: an empty slice may be nil. -/
inductive Wk : T → T → Prop
  | refl (t : T) : Wk t t
  | nil (k e : Nat) : Wk (.v (.slice none 0 0)) (.sl false k 0 e [])
  | dead (t : T) : Wk t .dead
  | agg {ts us : List T} (hl : ts.length = us.length) (h : ∀ (i : Nat) (t u : T), ts[i]? = some t → us[i]? = some u → Wk t u) : Wk (.agg ts) (.agg us)
  | tup {ts us : List T} (hl : ts.length = us.length) (h : ∀ (i : Nat) (t u : T), ts[i]? = some t → us[i]? = some u → Wk t u) : Wk (.tup ts) (.tup us)

inductive Wks : List T → List T → Prop
  | nil : Wks [] []
  | same (ts : List T) : Wks ts ts
  | cons {t u : T} {ts us : List T} (h : Wk t u) (hs : Wks ts us) : Wks (t :: ts) (u :: us)

theorem Wks.at : ∀ {ts us : List T}, Wks ts us → ts.length = us.length ∧ ∀ (i : Nat) (t u : T), ts[i]? = some t → us[i]? = some u → Wk t u
  | _, _, .nil => ⟨rfl, fun i t u h => by simp at h⟩
  | _, _, .same _ => ⟨rfl, fun i t u h k => by rw [h] at k; cases k; exact .refl _⟩
  | _, _, .cons h hs => by
    obtain ⟨h1, h2⟩ := hs.at
    refine ⟨by simp [h1], fun i t u ht hu => ?_⟩
    cases i with
    | zero => simp at ht hu; subst ht; subst hu; exact h
    | succ i => exact h2 i t u (by simpa using ht) (by simpa using hu)
theorem Wk.aggs {ts us : List T} (h : Wks ts us) : Wk (.agg ts) (.agg us) := .agg h.at.1 h.at.2
theorem Wk.tups {ts us : List T} (h : Wks ts us) : Wk (.tup ts) (.tup us) := .tup h.at.1 h.at.2

theorem nil_fz (w : World) (ok : Nat → Prop) (o : Bool) (k e : Nat) : FzR w ok (.sl o k 0 e []) (.slice none 0 0) :=
  .sl 0 0 (fun _ => undef) (by simp) (Nat.le_refl _) (.inl rfl) (fun j c h => by simp at h) (fun j c h => by simp at h)

theorem TR.wk {E : Env} {t u : T} (h : Wk t u) : ∀ {v : Value}, TR E t v → TR E u v := by
  induction h with
  | refl t => exact fun h => h
  | nil k e => intro v h; cases h; exact .sl (nil_fz _ _ _ _ _)
  | dead t => exact fun _ => .dead _
  | agg hl _ ih =>
    intro v h
    cases h with
    | agg hs hh =>
      refine .agg (hs.trans hl) fun i u hu => ?_
      have hlt := (List.getElem?_eq_some_iff.1 hu).1
      have ht := List.getElem?_eq_getElem (hl ▸ hlt)
      exact ih i _ u ht hu (hh i _ ht)
  | tup hl _ ih =>
    intro v h
    cases h with
    | tup hs hh =>
      refine .tup (hs.trans hl) fun i u hu => ?_
      have hlt := (List.getElem?_eq_some_iff.1 hu).1
      have ht := List.getElem?_eq_getElem (hl ▸ hlt)
      exact ih i _ u ht hu (hh i _ ht)

theorem CR.wk {E : Env} {r : Nat} {p : List Nat} {j : Nat} {t u : T} {v : Value} (h : Wk t u) (hc : CR E r p j t v) : CR E r p j u v := by
  cases h with
  | refl => exact hc
  | nil k e => cases hc with | v _ _ => exact .fz (nil_fz _ _ _ _ _)
  | dead => exact .dead _ hc.oneCell
  | agg _ _ => cases hc
  | tup _ _ => cases hc

/-- Roots of which less is said. -/
inductive WkS : Store → Store → Prop
  | nil : WkS [] []
  | cons {x y : Root} {S S' : Store} (he : x.e = y.e) (hl : y.live = true → x.live = true) (h : y.live = true → Wks x.cs y.cs) (hs : WkS S S') : WkS (x :: S) (y :: S')

theorem WkS.refl : ∀ (S : Store), WkS S S
  | [] => .nil
  | _ :: S => .cons rfl (fun h => h) (fun _ => .same _) (WkS.refl S)

theorem WkS.at {S S' : Store} (h : WkS S S') : S.length = S'.length ∧ ∀ (r : Nat) (y : Root), S'[r]? = some y → ∃ x, S[r]? = some x ∧ x.e = y.e ∧ (y.live = true → x.live = true) ∧ (y.live = true → Wks x.cs y.cs) := by
  induction h with
  | nil => exact ⟨rfl, fun r y h => by simp at h⟩
  | cons he hl h _ ih =>
    refine ⟨by simp [ih.1], fun r y hy => ?_⟩
    cases r with
    | zero => simp at hy; subst hy; exact ⟨_, rfl, he, hl, h⟩
    | succ r => exact ih.2 r y (by simpa using hy)

theorem wks_cells {any : Bool} : ∀ (p : List Nat) (e : Nat) (ts us : List T) (e' : Nat) (us' : List T), Wks ts us → cellsAt any e us p = some (e', us') → ∃ ts', cellsAt any e ts p = some (e', ts') ∧ Wks ts' us'
  | [], e, ts, us, e', us', h, hx => by
    simp only [cellsAt, Option.some.injEq, Prod.mk.injEq] at hx
    obtain ⟨rfl, rfl⟩ := hx
    exact ⟨ts, rfl, h⟩
  | c :: p, e, ts, us, e', us', h, hx => by
    unfold cellsAt at hx ⊢
    split at hx
    · rename_i k n e1 cs1 hc
      have hlt := (List.getElem?_eq_some_iff.1 hc).1
      obtain ⟨t, ht⟩ : ∃ t, ts[c]? = some t := ⟨_, List.getElem?_eq_getElem (h.at.1 ▸ hlt)⟩
      have hw := h.at.2 c t _ ht hc
      cases hw with
      | refl =>
        rw [ht]
        simp only
        split at hx
        · rename_i hk
          rw [if_pos hk]
          exact ⟨us', hx, .same _⟩
        · cases hx
    · cases hx

theorem WkS.node {S S' : Store} (h : WkS S S') {any : Bool} {r : Nat} {p : List Nat} {e : Nat} {cs : List T} (hx : S'.at any r p = some (e, cs)) : ∃ cs0, S.at any r p = some (e, cs0) ∧ Wks cs0 cs := by
  unfold Store.at at hx ⊢
  cases hy : S'[r]? with
  | none => rw [hy] at hx; cases hx
  | some y =>
    rw [hy] at hx
    simp only at hx
    split at hx
    · rename_i hl
      obtain ⟨x, h1, h2, h3, h4⟩ := h.at.2 r y hy
      rw [h1]
      simp only [h3 hl, if_true]
      rw [h2]
      exact wks_cells p _ _ _ _ _ (h4 hl) hx
    · cases hx

theorem wk_env {E E0 : Env} {w0 : World} (h : Inv E w0) (ev : Evo E0 E) {S' : Store} (hw : WkS E.S S') : Inv { E with S := S' } w0 ∧ Evo E0 { E with S := S' } ∧ ∀ t v, TR E t v → TR { E with S := S' } t v := by
  have hown : ∀ b, ({ E with S := S' } : Env).own b → E.own b := by
    rintro b ⟨r, p, x, hx, hb⟩
    obtain ⟨cs0, h1, _⟩ := hw.node (e := x.1) (cs := x.2) hx
    exact ⟨r, p, _, h1, hb⟩
  have hok : ∀ k b, E.okz k b → ({ E with S := S' } : Env).okz k b := fun k b hb => ⟨hb.1, fun ho => hb.2.1 (hown b ho), hb.2.2⟩
  have e1 : Evo E { E with S := S' } := ⟨rfl, rfl, rfl, by simp [hw.at.1], fun k b hb => ⟨hok k b hb, rfl⟩, fun r p e cs' hr hx => by
    obtain ⟨cs0, h1, _⟩ := hw.node hx
    exact ⟨⟨cs0, h1⟩, rfl, fun arr ty mk ha => ⟨arr, ha, rfl⟩⟩⟩
  refine ⟨⟨h.below, h.hB, h.hN, fun r p e cs hx => ?_, fun r p x r' p' x' hx hx' hb => ?_, fun r p x hx hlt => ?_⟩, ev.trans e1, fun t v ht => ht.evo e1⟩
  · obtain ⟨cs0, h1, h2⟩ := hw.node hx
    obtain ⟨arr, ty, mk, a1, a2, a3, a4, a5⟩ := h.blk r p e cs0 h1
    refine ⟨arr, ty, mk, a1, by rw [← h2.at.1]; exact a2, a3, a4, fun j c hc => ?_⟩
    have hlt := (List.getElem?_eq_some_iff.1 hc).1
    obtain ⟨t, ht⟩ : ∃ t, cs0[j]? = some t := ⟨_, List.getElem?_eq_getElem (h2.at.1 ▸ hlt)⟩
    exact ((a5 j t ht).evo e1 (Sized.refl _) (fun _ _ _ _ _ => rfl)).wk (h2.at.2 j t c ht hc)
  · obtain ⟨c1, h1, _⟩ := hw.node (e := x.1) (cs := x.2) hx
    obtain ⟨c2, h2, _⟩ := hw.node (e := x'.1) (cs := x'.2) hx'
    exact h.inj _ _ _ _ _ _ h1 h2 hb
  · obtain ⟨c1, h1, _⟩ := hw.node (e := x.1) (cs := x.2) hx
    exact h.frz _ _ _ h1 hlt

/-- Roots frozen, fewer roots, and less said of the variables and roots. -/
structure Gc (M : Nat) (S : Store) (fr : Nat → T) (S2 : Store) (fr2 : Nat → T) (keep fz : List Nat) : Prop where
  nodup : keep.Nodup
  lt : ∀ r ∈ keep, r < S.length
  first : ∀ i, i < M → keep[i]? = some i
  store : WkS (gcS keep (fzAllS fz S)) S2
  frame : ∀ t, Wk (gcT keep (fzAllT fz S (fr t))) (fr2 t)

theorem Gc.frees {E : Env} {M n : Nat} {fr fr2 : Nat → T} {S2 : Store} {keep fz : List Nat} (hg : Gc M E.S fr S2 fr2 keep fz) {w0 : World} (h : Inv E w0) {E0 : Env} (hM : E0.S.length = M) (ev : Evo E0 E) {a : Act} (hf : FR E n fr a) :
    ∃ E2, E2.w = E.w ∧ E2.S = S2 ∧ Inv E2 w0 ∧ Evo E0 E2 ∧ FR E2 n fr2 a ∧ (∀ t v, TR E t v → TR E2 (gcT keep (fzAllT fz E.S t)) v) := by
  obtain ⟨E1, h1, h2, h3, h4, h5⟩ := fzAll_env fz E h ev
  have hlt : ∀ r ∈ keep, r < E1.S.length := by rw [h2, fzAllS_length]; exact hg.lt
  have hst : WkS (E1.gc keep).S S2 := by
    have := hg.store
    rw [← h2] at this
    exact this
  obtain ⟨k1, k2, k3⟩ := wk_env (gc_inv h3 hlt hg.nodup) (gc_evo h4 hlt (by rw [hM]; exact hg.first)) hst
  exact ⟨{ E1.gc keep with S := S2 }, h1, rfl, k1, k2, ⟨hf.size, fun t => (k3 _ _ (gc_tr hlt _ _ (h5 _ _ (hf.tr t)))).wk (hg.frame t)⟩, fun t v ht => k3 _ _ (gc_tr hlt _ _ (h5 t v ht))⟩

end Go.TL
