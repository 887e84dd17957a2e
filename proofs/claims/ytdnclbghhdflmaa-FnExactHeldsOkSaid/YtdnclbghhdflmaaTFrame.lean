/- A call's contract over a few roots holds over more roots. No conditions. -/
import Derived.Test.YtdnclbghhdflmaaTLend
namespace Go.TL
open Go.RowKit

theorem backS_length (ρ : List Nat) (S S1 : Store) : (backS ρ S S1).length = S.length + (S1.length - ρ.length) := by
  simp [backS]

/-- What fits: which roots go over, and that they do. -/
structure Fits (S : Store) (ρ : List Nat) (S0 : Store) : Prop where
  len : ρ.length = S0.length
  nodup : ρ.Nodup
  lt : ∀ r ∈ ρ, r < S.length
  same : ∀ (i r : Nat), ρ[i]? = some r → S[r]? = S0[i]?
  noref : ∀ x ∈ S0, allTs leafNoRef x.cs = true

def Env.to (E : Env) (ρ : List Nat) (S0 : Store) (L : Nat) : Env :=
  { w := E.w, S := S0, φ := fun i p => E.φ (ρ.getD i 0) p, B := E.B, N := E.w.heap.size, K := fun k b => k = L ∨ E.okz k b ∨ (k = 0 ∧ ∃ r p x, r ∈ ρ ∧ E.S.at true r p = some x ∧ E.φ r p = b) }

section
variable {E : Env} {w0 : World} {ρ : List Nat} {S0 : Store} {L : Nat}

theorem to_at (hf : Fits E.S ρ S0) {any : Bool} {i : Nat} {p : List Nat} {x : Nat × List T} (hx : (E.to ρ S0 L).S.at any i p = some x) :
    ∃ r, ρ[i]? = some r ∧ E.S.at any r p = some x ∧ (E.to ρ S0 L).φ i p = E.φ r p := by
  have hi := Store.at_lt hx
  obtain ⟨r, hr⟩ : ∃ r, ρ[i]? = some r := ⟨_, List.getElem?_eq_getElem (by rw [hf.len]; exact hi)⟩
  refine ⟨r, hr, ?_, ?_⟩
  · have := hf.same i r hr
    unfold Store.at at hx ⊢
    rw [this]; exact hx
  · simp [Env.to, List.getD_eq_getElem?_getD, hr]

theorem to_at' (hf : Fits E.S ρ S0) {any : Bool} {i r : Nat} (hr : ρ[i]? = some r) (p : List Nat) : (E.to ρ S0 L).S.at any i p = E.S.at any r p := by
  have := hf.same i r hr
  unfold Store.at
  rw [this]; rfl

theorem to_own (hf : Fits E.S ρ S0) {b : Nat} (h : (E.to ρ S0 L).own b) : E.own b := by
  obtain ⟨i, p, x, hx, hb⟩ := h
  obtain ⟨r, _, h2, h3⟩ := to_at hf hx
  exact ⟨r, p, x, h2, h3.symm.trans hb⟩

theorem to_okz (hf : Fits E.S ρ S0) {k b : Nat} (h : E.okz k b) : (E.to ρ S0 L).okz k b :=
  ⟨h.1, fun ho => h.2.1 (to_own hf ho), fun _ => .inr (.inl h)⟩

theorem to_okL {b : Nat} (h1 : b < E.w.heap.size) (h2 : ¬ (E.to ρ S0 L).own b) : (E.to ρ S0 L).okz L b := ⟨h1, h2, fun _ => .inl rfl⟩

theorem to_hidden (h : Inv E w0) (hf : Fits E.S ρ S0) {r : Nat} {p : List Nat} {x : Nat × List T} (hx : E.S.at true r p = some x) (hr : r ∉ ρ) : (E.to ρ S0 L).okz L (E.φ r p) := by
  refine to_okL (Env.own_lt h ⟨r, p, x, hx, rfl⟩).2 ?_
  rintro ⟨i, q, y, hy, hb⟩
  obtain ⟨r', h1, h2, h3⟩ := to_at hf hy
  have := h.inj _ _ _ _ _ _ h2 hx (h3.symm.trans hb)
  exact hr (this.1 ▸ List.mem_of_getElem? h1)

theorem to_inv (h : Inv E w0) (hf : Fits E.S ρ S0) : Inv (E.to ρ S0 L) E.w := by
  refine ⟨Below.refl _ _, Nat.le_trans h.hB h.below.size, Nat.le_refl _, fun i p e cs hx => ?_, fun i p x i' p' x' hx hx' hb => ?_, fun i p x hx _ => ?_⟩
  · obtain ⟨r, h1, h2, h3⟩ := to_at hf hx
    obtain ⟨arr, ty, mk, a1, a2, a3, a4, a5⟩ := h.blk r p e cs h2
    refine ⟨arr, ty, mk, by rw [h3]; exact a1, a2, a3, by rw [h3]; exact a4, fun j c hc => ?_⟩
    have hlt := Store.at_lt hx
    have hno : allTs leafNoRef cs = true := by
      unfold Store.at at hx
      cases hs : (E.to ρ S0 L).S[i]? with
      | none => rw [hs] at hx; cases hx
      | some y =>
        rw [hs] at hx
        simp only at hx
        split at hx
        · exact allTs_cellsAt p y.e y.cs (e, cs) (hf.noref y (List.mem_of_getElem? hs)) hx
        · cases hx
    have hcn := allTs_at cs hno j c hc
    cases a5 j c hc with
    | v _ hv => exact .v _ hv
    | fz hz => exact .fz (hz.evo fun b hb => ⟨to_okz hf hb, rfl⟩)
    | own hn hv =>
      refine .own hn ?_
      have : (E.to ρ S0 L).φ i (p ++ [j]) = E.φ r (p ++ [j]) := by simp [Env.to, List.getD_eq_getElem?_getD, h1]
      rw [this]; exact hv
    | ref hv ht => simp [allT, leafNoRef] at hcn
    | dead _ hv => exact .dead _ hv
  · obtain ⟨r, h1, h2, h3⟩ := to_at hf hx
    obtain ⟨r', h1', h2', h3'⟩ := to_at hf hx'
    obtain ⟨e1, e2⟩ := h.inj _ _ _ _ _ _ h2 h2' (h3.symm.trans (hb.trans h3'))
    subst e1
    exact ⟨(List.getElem?_inj (by rw [hf.len]; exact Store.at_lt hx) hf.nodup).1 (h1.trans h1'.symm), e2⟩
  · obtain ⟨r, h1, h2, h3⟩ := to_at hf hx
    exact .inr (.inr ⟨rfl, r, p, x, List.mem_of_getElem? h1, h2, h3.symm⟩)

/-- Own cells, seen as frozen. -/
theorem fz_cells (h : Inv E w0) (hf : Fits E.S ρ S0) {r : Nat} (hr : r ∉ ρ) : ∀ (c : T) (p : List Nat) (j : Nat) (e : Nat) (cs : List T) (v : Value), E.S.at true r p = some (e, cs) → cs[j]? = some c → CR E r p j c v → allT leafFz c = true →
    FzR E.w ((E.to ρ S0 L).okz L) c v
  | .v x, p, j, e, cs, v, hn, hc, hcr, _ => by cases hcr with | v _ hv => exact .v _ hv
  | .sl false k n e1 cs1, p, j, e, cs, v, hn, hc, hcr, _ => by
    cases hcr with
    | fz hz => exact hz.evo fun b hb => ⟨to_okL hb.1 fun ho => hb.2.1 (to_own hf ho), rfl⟩
  | .sl true k n e1 cs1, p, j, e, cs, v, hn, hc, hcr, hz => by
    cases hcr with
    | own hn1 hv =>
      have hat : E.S.at true r (p ++ [j]) = some (e1, cs1) := by
        rw [Store.at_append, hn]
        simp [cellsAt, hc]
      obtain ⟨arr, ty, mk, a1, a2, a3, a4, a5⟩ := h.blk r (p ++ [j]) e1 cs1 hat
      obtain ⟨cap, arr', ty', mk', b1, b2, b3, rfl⟩ := hv
      have hzs : allTs leafFz cs1 = true := by simpa [allT] using hz
      refine .sl (E.φ r (p ++ [j])) 0 (fun j => arr.getD j undef) hn1 b2 (.inr ⟨rfl, to_hidden h hf hat hr⟩) (fun i c hi => ?_) (fun i c hi => ?_)
      · have hlt := (List.getElem?_eq_some_iff.1 hi).1
        rw [cell_of_row _ _ _ _ _ _ a1, Array.getD_eq_getD_getElem?, Array.getElem?_eq_getElem (by omega)]
        simp [Array.getElem?_eq_getElem (show i < arr.size by omega)]
      · exact fz_cells h hf hr c (p ++ [j]) i e1 cs1 _ hat hi (a5 i c hi) (allTs_at cs1 hzs i c hi)
  | .ref _ _ _ _, _, _, _, _, _, _, _, _, hz => by simp [allT, leafFz] at hz
  | .ptr _ _ _, _, _, _, _, _, _, _, _, hz => by simp [allT, leafFz] at hz
  | .pz _ _ _, _, _, _, _, _, _, _, _, hz => by simp [allT, leafFz] at hz
  | .agg _, _, _, _, _, _, _, _, hcr, _ => by cases hcr
  | .tup _, _, _, _, _, _, _, _, hcr, _ => by cases hcr
  | .clo _ _, _, _, _, _, _, _, _, hcr, _ => by cases hcr
  | .dead, _, _, _, _, _, _, _, _, hz => by simp [allT, leafFz] at hz
termination_by c => SizeOf.sizeOf c
decreasing_by
  have h1 := List.mem_of_getElem? hi
  have h2 := List.sizeOf_lt_of_mem h1
  simp only [T.sl.sizeOf_spec]
  omega

/-- What the callee sees of an argument is so. -/
theorem FzR.tag {w : World} {ok : Nat → Prop} {o o' : Bool} {k k' n e : Nat} {cs : List T} {v : Value} (h : FzR w ok (.sl o k n e cs) v) : FzR w ok (.sl o' k' n e cs) v := by
  cases h with
  | sl b off f hn hc ha hcell hrec => exact .sl b off f hn hc ha hcell hrec

theorem to_okt (hf : Fits E.S ρ S0) (rt : Bool) {k b : Nat} (hb : E.okz k b) : (E.to ρ S0 L).okz (if rt = true then L else k) b := by
  split
  · exact to_okL hb.1 fun ho => hb.2.1 (to_own hf ho)
  · exact to_okz hf hb

theorem lend_tr {rt : Bool} (h : Inv E w0) (hf : Fits E.S ρ S0) : ∀ (t t2 : T) (v : Value), lendT rt E.S ρ L t = some t2 → TR E t v → TR (E.to ρ S0 L) t2 v
  | .v x, t2, v, hl, ht => by simp only [lendT, Option.some.injEq] at hl; subst hl; cases ht; exact .v _
  | .sl false k n e cs, t2, v, hl, ht => by
    simp only [lendT, Option.some.injEq] at hl; subst hl
    cases ht with
    | sl hz => exact .sl (hz.evo fun b hb => ⟨to_okt hf rt hb, rfl⟩).tag
  | .sl true k n e cs, t2, v, hl, ht => by simp [lendT] at hl
  | .ref r p off n, t2, v, hl, ht => by
    simp only [lendT] at hl
    split at hl
    · rename_i i hi
      cases hl
      have hri : ρ[i]? = some r := idx_at hi
      cases ht with
      | ref hr hh =>
        refine .ref (by have := (List.getElem?_eq_some_iff.1 hri).1; rw [hf.len] at this; exact this) fun e cs hx => ?_
        rw [to_at' hf hri] at hx
        have : (E.to ρ S0 L).φ i p = E.φ r p := by simp [Env.to, List.getD_eq_getElem?_getD, hri]
        rw [this]
        exact hh e cs hx
    · rename_i hi
      have hnr : r ∉ ρ := by
        intro hm
        exact absurd hi (by simp [List.idxOf?_eq_none_iff, hm])
      split at hl
      · rename_i e cs hn
        split at hl
        · rename_i hz
          cases hl
          cases ht with
          | ref hr hh =>
            obtain ⟨cap, arr', ty', mk', b1, b2, b3, rfl⟩ := hh e cs hn
            have hn' := Store.at_any hn
            obtain ⟨arr, ty, mk, a1, a2, a3, a4, a5⟩ := h.blk r p e cs hn'
            refine .sl (.sl (E.φ r p) off (fun j => arr.getD (off + j) undef) (by rw [List.length_take, List.length_drop]; omega) b2 (.inr ⟨rfl, to_hidden h hf hn' hnr⟩) (fun i c hi => ?_) (fun i c hi => ?_))
            all_goals
              have hi' : cs[off + i]? = some c := by
                rw [List.getElem?_take] at hi
                split at hi
                · rw [List.getElem?_drop] at hi; exact hi
                · cases hi
              have hlt := (List.getElem?_eq_some_iff.1 hi').1
            · show E.w.cell? _ = _
              rw [cell_of_row _ _ _ _ _ _ a1, Array.getD_eq_getD_getElem?, Array.getElem?_eq_getElem (by omega)]; rfl
            · exact fz_cells h hf hnr c p (off + i) e cs _ hn' hi' (a5 _ c hi') (allTs_at cs hz.1 _ c hi')
        · cases hl
      · cases hl
  | .ptr r p off, t2, v, hl, ht => by
    simp only [lendT] at hl
    split at hl
    · rename_i i hi
      cases hl
      have hri : ρ[i]? = some r := idx_at hi
      cases ht with
      | ptr hr hh =>
        refine .ptr (by have := (List.getElem?_eq_some_iff.1 hri).1; rw [hf.len] at this; exact this) fun x hx => ?_
        rw [to_at' hf hri] at hx
        have : (E.to ρ S0 L).φ i p = E.φ r p := by simp [Env.to, List.getD_eq_getElem?_getD, hri]
        rw [this]
        exact hh x hx
    · rename_i hi
      have hnr : r ∉ ρ := by
        intro hm
        exact absurd hi (by simp [List.idxOf?_eq_none_iff, hm])
      split at hl
      · rename_i e cs hn
        split at hl
        · rename_i hz
          cases hl
          cases ht with
          | ptr hr hh =>
            have hn' := Store.at_any hn
            obtain ⟨arr, ty, mk, a1, a2, a3, a4, a5⟩ := h.blk r p e cs hn'
            have hv := hh _ hn
            subst hv
            have := TR.pz (E := E.to ρ S0 L) (k := L) (cs := cs) (off := off) (b := E.φ r p) (o := 0) (fun j => arr.getD j undef) (to_hidden h hf hn' hnr) (fun i c hi => by
                have hlt := (List.getElem?_eq_some_iff.1 hi).1
                show E.w.cell? _ = _
                rw [cell_of_row _ _ _ _ _ _ a1, Array.getD_eq_getD_getElem?, Array.getElem?_eq_getElem (by omega)]
                simp [Array.getElem?_eq_getElem (show i < arr.size by omega)]) (fun i c hi => fz_cells h hf hnr c p i e cs _ hn' hi (a5 _ c hi) (allTs_at cs hz _ c hi))
            simpa using this
        · cases hl
      · cases hl
  | .pz k cs off, t2, v, hl, ht => by
    simp only [lendT, Option.some.injEq] at hl; subst hl
    cases ht with
    | pz f hok hcell hrec => exact .pz f (to_okt hf rt hok) hcell (fun j c hj => (hrec j c hj).evo fun b hb => ⟨to_okt hf rt hb, rfl⟩)
  | .agg cs, t2, v, hl, ht => by
    simp only [lendT] at hl
    obtain ⟨xs, hx, rfl⟩ := Option.map_eq_some_iff.1 hl
    obtain ⟨h1, h2⟩ := lendTs_at cs xs hx
    cases ht with
    | agg hs hh =>
      refine .agg (hs.trans h1.symm) fun i t hi => ?_
      obtain ⟨c, hc, hd⟩ := h2 i t hi
      exact lend_tr h hf c t _ hd (hh i c hc)
  | .tup cs, t2, v, hl, ht => by
    simp only [lendT] at hl
    obtain ⟨xs, hx, rfl⟩ := Option.map_eq_some_iff.1 hl
    obtain ⟨h1, h2⟩ := lendTs_at cs xs hx
    cases ht with
    | tup hs hh =>
      refine .tup (hs.trans h1.symm) fun i t hi => ?_
      obtain ⟨c, hc, hd⟩ := h2 i t hi
      exact lend_tr h hf c t _ hd (hh i c hc)
  | .clo f cs, t2, v, hl, ht => by
    simp only [lendT] at hl
    obtain ⟨xs, hx, rfl⟩ := Option.map_eq_some_iff.1 hl
    obtain ⟨h1, h2⟩ := lendTs_at cs xs hx
    cases ht with
    | clo hs hh =>
      refine .clo (hs.trans h1.symm) fun i t hi => ?_
      obtain ⟨c, hc, hd⟩ := h2 i t hi
      exact lend_tr h hf c t _ hd (hh i c hc)
  | .dead, t2, v, hl, ht => by simp only [lendT, Option.some.injEq] at hl; subst hl; exact .dead _
termination_by t => SizeOf.sizeOf t
decreasing_by
  all_goals
    have h1 := List.mem_of_getElem? hc
    have h2 := List.sizeOf_lt_of_mem h1
    simp only [T.agg.sizeOf_spec, T.tup.sizeOf_spec, T.clo.sizeOf_spec]
    omega

end
end Go.TL
