/- Fewer roots under other numbers. No conditions. -/
import Derived.Test.YtdnclbghhdflmaaTStep
namespace Go.TL
open Go.RowKit

mutual
/-- Other numbers for the roots that are kept; what is of no kept root is dead. -/
def gcT (keep : List Nat) : T → T
  | .sl true k n e cs => .sl true k n e (gcTs keep cs)
  | .ref r p off n => match keep.idxOf? r with | some i => .ref i p off n | none => .dead
  | .ptr r p off => match keep.idxOf? r with | some i => .ptr i p off | none => .dead
  | .agg cs => .agg (gcTs keep cs)
  | .tup cs => .tup (gcTs keep cs)
  | .clo f cs => .clo f (gcTs keep cs)
  | t => t
def gcTs (keep : List Nat) : List T → List T
  | [] => []
  | c :: cs => gcT keep c :: gcTs keep cs
end

theorem gcTs_map (keep : List Nat) : ∀ cs : List T, gcTs keep cs = cs.map (gcT keep)
  | [] => rfl
  | c :: cs => by rw [gcTs, gcTs_map keep cs]; rfl

theorem gcTs_length (keep : List Nat) (cs : List T) : (gcTs keep cs).length = cs.length := by rw [gcTs_map, List.length_map]

theorem cellsAt_gcTs (keep : List Nat) (any : Bool) : ∀ (p : List Nat) (e : Nat) (cs : List T), cellsAt any e (gcTs keep cs) p = (cellsAt any e cs p).map fun x => (x.1, gcTs keep x.2)
  | [], e, cs => rfl
  | c :: p, e, cs => by
    unfold cellsAt
    rw [gcTs_map, List.getElem?_map]
    cases hc : cs[c]? with
    | none => rfl
    | some t =>
      cases t with
      | sl own k n e' cs' =>
        cases own with
        | false => rfl
        | true =>
          simp only [Option.map_some, gcT]
          split
          · exact cellsAt_gcTs keep any p e' cs'
          · rfl
      | ref r p off n => simp only [Option.map_some, gcT]; cases keep.idxOf? r <;> rfl
      | ptr r p off => simp only [Option.map_some, gcT]; cases keep.idxOf? r <;> rfl
      | _ => rfl

def Root.gc (keep : List Nat) (x : Root) : Root := ⟨x.e, x.live, gcTs keep x.cs⟩

def gcS (keep : List Nat) (S : Store) : Store := keep.map fun r => Root.gc keep ((S[r]?).getD ⟨0, false, []⟩)

def Env.gc (E : Env) (keep : List Nat) : Env := { E with S := gcS keep E.S, φ := fun i p => E.φ (keep.getD i 0) p }

theorem idx_at {ρ : List Nat} {r i : Nat} (h : ρ.idxOf? r = some i) : ρ[i]? = some r := by
  obtain ⟨h1, h2, _⟩ := List.findIdx?_eq_some_iff_getElem.1 (show ρ.findIdx? (· == r) = some i from h)
  rw [List.getElem?_eq_getElem h1]
  simpa using h2

section
variable {E : Env} {w0 : World} {keep : List Nat}

theorem gc_at (hk : ∀ r ∈ keep, r < E.S.length) {any : Bool} {i r : Nat} (hi : keep[i]? = some r) (p : List Nat) : (E.gc keep).S.at any i p = (E.S.at any r p).map fun x => (x.1, gcTs keep x.2) := by
  unfold Store.at
  show (match (gcS keep E.S)[i]? with | some x => _ | none => _) = _
  unfold gcS
  rw [List.getElem?_map, hi]
  have hr := hk r (List.mem_of_getElem? hi)
  simp only [Option.map_some, List.getElem?_eq_getElem hr, Option.getD_some, Root.gc]
  split
  · exact cellsAt_gcTs keep any p _ _
  · rfl

theorem gc_phi {i r : Nat} (hi : keep[i]? = some r) (p : List Nat) : (E.gc keep).φ i p = E.φ r p := by simp [Env.gc, List.getD_eq_getElem?_getD, hi]

theorem gc_at_of (hk : ∀ r ∈ keep, r < E.S.length) {any : Bool} {i : Nat} {p : List Nat} {x : Nat × List T} (hx : (E.gc keep).S.at any i p = some x) :
    ∃ r x1, keep[i]? = some r ∧ E.S.at any r p = some x1 ∧ x = (x1.1, gcTs keep x1.2) := by
  have hi := Store.at_lt hx
  have hi' : i < keep.length := by simpa [Env.gc, gcS] using hi
  obtain ⟨r, hr⟩ : ∃ r, keep[i]? = some r := ⟨_, List.getElem?_eq_getElem hi'⟩
  rw [gc_at hk hr] at hx
  obtain ⟨x1, h1, rfl⟩ := Option.map_eq_some_iff.1 hx
  exact ⟨r, x1, hr, h1, rfl⟩

theorem gc_own (hk : ∀ r ∈ keep, r < E.S.length) {b : Nat} (h : (E.gc keep).own b) : E.own b := by
  obtain ⟨i, p, x, hx, hb⟩ := h
  obtain ⟨r, x1, h1, h2, _⟩ := gc_at_of hk hx
  exact ⟨r, p, x1, h2, by rw [← gc_phi h1]; exact hb⟩

theorem gc_okz (hk : ∀ r ∈ keep, r < E.S.length) {k b : Nat} (h : E.okz k b) : (E.gc keep).okz k b := ⟨h.1, fun ho => h.2.1 (gc_own hk ho), h.2.2⟩

theorem gc_tr (hk : ∀ r ∈ keep, r < E.S.length) : ∀ (t : T) (v : Value), TR E t v → TR (E.gc keep) (gcT keep t) v
  | .v x, v, ht => by cases ht; exact .v _
  | .sl false k n e cs, v, ht => by
    cases ht with
    | sl hz => exact .sl (hz.evo fun b hb => ⟨gc_okz hk hb, rfl⟩)
  | .sl true k n e cs, v, ht => by cases ht
  | .ref r p off n, v, ht => by
    simp only [gcT]
    split
    · rename_i i hi
      have hri := idx_at hi
      cases ht with
      | ref hr hh =>
        refine .ref (by have := (List.getElem?_eq_some_iff.1 hri).1; simpa [Env.gc, gcS] using this) fun e cs hx => ?_
        rw [gc_at hk hri] at hx
        obtain ⟨x1, h1, h2⟩ := Option.map_eq_some_iff.1 hx
        simp only [Prod.mk.injEq] at h2
        obtain ⟨rfl, rfl⟩ := h2
        rw [gc_phi hri]
        exact hh x1.1 x1.2 h1
    · exact .dead _
  | .ptr r p off, v, ht => by
    simp only [gcT]
    split
    · rename_i i hi
      have hri := idx_at hi
      cases ht with
      | ptr hr hh =>
        refine .ptr (by have := (List.getElem?_eq_some_iff.1 hri).1; simpa [Env.gc, gcS] using this) fun x hx => ?_
        rw [gc_at hk hri] at hx
        obtain ⟨x1, h1, h2⟩ := Option.map_eq_some_iff.1 hx
        rw [gc_phi hri]
        exact hh x1 h1
    · exact .dead _
  | .pz k cs off, v, ht => by
    cases ht with
    | pz f hok hcell hrec => exact .pz f (gc_okz hk hok) hcell (fun j c hj => (hrec j c hj).evo fun b hb => ⟨gc_okz hk hb, rfl⟩)
  | .agg cs, v, ht => by
    cases ht with
    | agg hs hh =>
      rw [gcT, gcTs_map]
      refine .agg (by rw [List.length_map]; exact hs) fun i t hi => ?_
      rw [List.getElem?_map] at hi
      obtain ⟨c, hc, rfl⟩ := Option.map_eq_some_iff.1 hi
      exact gc_tr hk c _ (hh i c hc)
  | .tup cs, v, ht => by
    cases ht with
    | tup hs hh =>
      rw [gcT, gcTs_map]
      refine .tup (by rw [List.length_map]; exact hs) fun i t hi => ?_
      rw [List.getElem?_map] at hi
      obtain ⟨c, hc, rfl⟩ := Option.map_eq_some_iff.1 hi
      exact gc_tr hk c _ (hh i c hc)
  | .clo f cs, v, ht => by
    cases ht with
    | clo hs hh =>
      rw [gcT, gcTs_map]
      refine .clo (by rw [List.length_map]; exact hs) fun i t hi => ?_
      rw [List.getElem?_map] at hi
      obtain ⟨c, hc, rfl⟩ := Option.map_eq_some_iff.1 hi
      exact gc_tr hk c _ (hh i c hc)
  | .dead, v, _ => .dead _
termination_by t => SizeOf.sizeOf t
decreasing_by
  all_goals
    have h1 := List.mem_of_getElem? hc
    have h2 := List.sizeOf_lt_of_mem h1
    simp only [T.agg.sizeOf_spec, T.tup.sizeOf_spec, T.clo.sizeOf_spec]
    omega

theorem gc_inv (h : Inv E w0) (hk : ∀ r ∈ keep, r < E.S.length) (hd : keep.Nodup) : Inv (E.gc keep) w0 := by
  refine ⟨h.below, h.hB, h.hN, fun i p e cs hx => ?_, fun i p x i' p' x' hx hx' hb => ?_, fun i p x hx hlt => ?_⟩
  · obtain ⟨r, x1, h1, h2, h3⟩ := gc_at_of hk hx
    simp only [Prod.mk.injEq] at h3
    obtain ⟨rfl, rfl⟩ := h3
    obtain ⟨arr, ty, mk, a1, a2, a3, a4, a5⟩ := h.blk r p x1.1 x1.2 h2
    refine ⟨arr, ty, mk, by rw [gc_phi h1]; exact a1, by rw [gcTs_length]; exact a2, a3, by rw [gc_phi h1]; exact a4, fun j c hc => ?_⟩
    rw [gcTs_map, List.getElem?_map] at hc
    obtain ⟨c1, hc1, rfl⟩ := Option.map_eq_some_iff.1 hc
    cases a5 j c1 hc1 with
    | v _ hv => exact .v _ hv
    | fz hz => exact .fz (hz.evo fun b hb => ⟨gc_okz hk hb, rfl⟩)
    | own hn hv =>
      refine .own (by rw [gcTs_length]; exact hn) ?_
      rw [gc_phi h1]; exact hv
    | ref hv ht =>
      have := gc_tr hk _ _ ht
      simp only [gcT] at this ⊢
      split at this
      · exact .ref hv this
      · exact .dead _ hv
    | dead _ hv => exact .dead _ hv
  · obtain ⟨r, x1, h1, h2, _⟩ := gc_at_of hk hx
    obtain ⟨r', x1', h1', h2', _⟩ := gc_at_of hk hx'
    rw [gc_phi h1, gc_phi h1'] at hb
    obtain ⟨e1, e2⟩ := h.inj _ _ _ _ _ _ h2 h2' hb
    subst e1
    exact ⟨(List.getElem?_inj (List.getElem?_eq_some_iff.1 h1).1 hd).1 (h1.trans h1'.symm), e2⟩
  · obtain ⟨r, x1, h1, h2, _⟩ := gc_at_of hk hx
    rw [gc_phi h1] at hlt ⊢
    exact h.frz _ _ _ h2 hlt

theorem gc_evo {E0 : Env} (ev : Evo E0 E) (hk : ∀ r ∈ keep, r < E.S.length) (hm : ∀ i, i < E0.S.length → keep[i]? = some i) : Evo E0 (E.gc keep) := by
  refine ⟨ev.B, ev.N, ev.K, ?_, fun k b hb => ⟨gc_okz hk (ev.fz k b hb).1, (ev.fz k b hb).2⟩, fun r p e cs' hr hx => ?_⟩
  · show _ ≤ (gcS keep E.S).length
    unfold gcS
    rw [List.length_map]
    rcases Nat.lt_or_ge keep.length E0.S.length with hlt | hge
    · have := (List.getElem?_eq_some_iff.1 (hm _ hlt)).1
      omega
    · exact hge
  · obtain ⟨r1, x1, h1, h2, h3⟩ := gc_at_of hk hx
    rw [hm r hr] at h1
    cases h1
    simp only [Prod.mk.injEq] at h3
    obtain ⟨rfl, rfl⟩ := h3
    obtain ⟨h4, h5, h6⟩ := ev.node r p x1.1 x1.2 hr h2
    exact ⟨h4, by rw [gc_phi (hm r hr)]; exact h5, h6⟩

end

end Go.TL
