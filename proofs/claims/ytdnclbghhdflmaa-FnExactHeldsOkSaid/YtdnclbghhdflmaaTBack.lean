/- What holds behind a call, under the caller's numbers. No conditions. -/
import Derived.Test.YtdnclbghhdflmaaTFrame
namespace Go.TL
open Go.RowKit

theorem backS_get (ρ : List Nat) (S S1 : Store) (r : Nat) : (backS ρ S S1)[r]? = if r < S.length then (match ρ.idxOf? r with | some i => some (Root.ren (backId ρ S.length) ((S1[i]?).getD ⟨0, false, []⟩)) | none => S[r]?)
    else (S1[r - S.length + ρ.length]?).map (Root.ren (backId ρ S.length)) := by
  unfold backS
  rw [List.getElem?_append]
  simp only [List.length_map, List.length_zipIdx]
  by_cases hr : r < S.length
  · rw [if_pos hr, if_pos hr, List.getElem?_map, List.getElem?_zipIdx, List.getElem?_eq_getElem hr]
    simp only [Option.map_some, Nat.zero_add]
    cases ρ.idxOf? r <;> rfl
  · rw [if_neg hr, if_neg hr, List.getElem?_map, List.getElem?_drop, Nat.add_comm]

def Env.back (E E2 : Env) (ρ : List Nat) : Env :=
  { w := E2.w, S := backS ρ E.S E2.S, φ := fun r p => if r < E.S.length then (match ρ.idxOf? r with | some i => E2.φ i p | none => E.φ r p) else E2.φ (r - E.S.length + ρ.length) p, B := E.B, N := E.N, K := E.K }

theorem backId_lt {ρ : List Nat} {n i r : Nat} (h : ρ[i]? = some r) : backId ρ n i = r := by simp [backId, h]
theorem backId_ge {ρ : List Nat} {n i : Nat} (h : ρ.length ≤ i) : backId ρ n i = n + (i - ρ.length) := by simp [backId, List.getElem?_eq_none h]

section
variable {E E2 : Env} {w0 : World} {ρ : List Nat} {S0 : Store} {L : Nat}

theorem idx_of (hf : Fits E.S ρ S0) {i r : Nat} (h : ρ[i]? = some r) : ρ.idxOf? r = some i := by
  cases hx : ρ.idxOf? r with
  | none => exact absurd (List.mem_of_getElem? h) (by simpa [List.idxOf?_eq_none_iff] using hx)
  | some j =>
    have h2 := idx_at hx
    rw [(List.getElem?_inj (List.getElem?_eq_some_iff.1 h).1 hf.nodup).1 (h.trans h2.symm)]

theorem backId_inj (hf : Fits E.S ρ S0) {i j : Nat} (h : backId ρ E.S.length i = backId ρ E.S.length j) : i = j := by
  rcases Nat.lt_or_ge i ρ.length with hi | hi <;> rcases Nat.lt_or_ge j ρ.length with hj | hj
  · rw [backId_lt (List.getElem?_eq_getElem hi), backId_lt (List.getElem?_eq_getElem hj)] at h
    exact (List.getElem?_inj hi hf.nodup).1 (by rw [List.getElem?_eq_getElem hi, List.getElem?_eq_getElem hj, h])
  · rw [backId_lt (List.getElem?_eq_getElem hi), backId_ge hj] at h
    have := hf.lt _ (List.getElem_mem hi)
    omega
  · rw [backId_ge hi, backId_lt (List.getElem?_eq_getElem hj)] at h
    have := hf.lt _ (List.getElem_mem hj)
    omega
  · rw [backId_ge hi, backId_ge hj] at h; omega

theorem back_phi (hf : Fits E.S ρ S0) (i : Nat) (q : List Nat) : (E.back E2 ρ).φ (backId ρ E.S.length i) q = E2.φ i q := by
  rcases Nat.lt_or_ge i ρ.length with hi | hi
  · have h := List.getElem?_eq_getElem hi
    rw [backId_lt h]
    simp only [Env.back, hf.lt _ (List.getElem_mem hi), if_true, idx_of hf h]
  · rw [backId_ge hi]
    simp only [Env.back]
    rw [if_neg (by omega), show E.S.length + (i - ρ.length) - E.S.length + ρ.length = i by omega]

theorem ren_at (g : Nat → Nat) (any : Bool) (S S' : Store) (r i : Nat) (p : List Nat) (h : S'[r]? = (S[i]?).map (Root.ren g)) : S'.at any r p = (S.at any i p).map fun x => (x.1, rens g x.2) := by
  unfold Store.at
  rw [h]
  cases S[i]? with
  | none => rfl
  | some x =>
    simp only [Option.map_some, Root.ren]
    split
    · exact cellsAt_rens g any p x.e x.cs
    · rfl

theorem back_at_new (hf : Fits E.S ρ S0) (hl : ρ.length ≤ E2.S.length) (any : Bool) (i : Nat) (p : List Nat) : (E.back E2 ρ).S.at any (backId ρ E.S.length i) p = (E2.S.at any i p).map fun x => (x.1, rens (backId ρ E.S.length) x.2) := by
  refine ren_at _ any _ _ _ i p ?_
  show (backS ρ E.S E2.S)[_]? = _
  rw [backS_get]
  rcases Nat.lt_or_ge i ρ.length with hi | hi
  · have h := List.getElem?_eq_getElem hi
    rw [backId_lt h, if_pos (hf.lt _ (List.getElem_mem hi)), idx_of hf h]
    simp only [List.getElem?_eq_getElem (l := E2.S) (i := i) (by omega), Option.getD_some, Option.map_some]
  · rw [backId_ge hi, if_neg (by omega), show E.S.length + (i - ρ.length) - E.S.length + ρ.length = i by omega]

theorem back_at_old {any : Bool} {r : Nat} (h1 : r ∉ ρ) (h2 : r < E.S.length) (p : List Nat) : (E.back E2 ρ).S.at any r p = E.S.at any r p ∧ (E.back E2 ρ).φ r p = E.φ r p := by
  have h3 : ρ.idxOf? r = none := by simp [List.idxOf?_eq_none_iff, h1]
  constructor
  · unfold Store.at
    show (match (backS ρ E.S E2.S)[r]? with | some x => _ | none => _) = _
    rw [backS_get, if_pos h2, h3]
    rfl
  · simp only [Env.back, if_pos h2, h3]

theorem back_at (hf : Fits E.S ρ S0) (hl : ρ.length ≤ E2.S.length) {any : Bool} {r : Nat} {p : List Nat} {x : Nat × List T} (hx : (E.back E2 ρ).S.at any r p = some x) :
    (∃ i x1, r = backId ρ E.S.length i ∧ E2.S.at any i p = some x1 ∧ x = (x1.1, rens (backId ρ E.S.length) x1.2)) ∨ (r ∉ ρ ∧ r < E.S.length ∧ E.S.at any r p = some x) := by
  by_cases h2 : r < E.S.length
  · by_cases h1 : r ∈ ρ
    · obtain ⟨i, hi, he⟩ := List.mem_iff_getElem.1 h1
      have he' : r = backId ρ E.S.length i := by rw [backId_lt (List.getElem?_eq_getElem hi), he]
      rw [he', back_at_new hf hl] at hx
      obtain ⟨x1, hx1, rfl⟩ := Option.map_eq_some_iff.1 hx
      exact .inl ⟨i, x1, he', hx1, rfl⟩
    · rw [(back_at_old h1 h2 p).1] at hx
      exact .inr ⟨h1, h2, hx⟩
  · have he' : r = backId ρ E.S.length (r - E.S.length + ρ.length) := by rw [backId_ge (by omega)]; omega
    rw [he', back_at_new hf hl] at hx
    obtain ⟨x1, hx1, rfl⟩ := Option.map_eq_some_iff.1 hx
    exact .inl ⟨_, x1, he', hx1, rfl⟩

theorem back_okz (_h : Inv E w0) (hf : Fits E.S ρ S0) (hl : ρ.length ≤ E2.S.length) (ev : Evo (E.to ρ S0 L) E2) (_h2 : Inv E2 E.w) {k b : Nat} (hb : E.okz k b) : (E.back E2 ρ).okz k b ∧ E2.w.heap[b]? = E.w.heap[b]? := by
  obtain ⟨h3, h4⟩ := ev.fz k b (to_okz hf hb)
  refine ⟨⟨h3.1, ?_, hb.2.2⟩, h4⟩
  rintro ⟨r, p, x, hx, hbb⟩
  rcases back_at hf hl hx with ⟨i, x1, rfl, hx1, _⟩ | ⟨h5, h6, h7⟩
  · rw [back_phi hf] at hbb
    exact h3.2.1 ⟨i, p, x1, hx1, hbb⟩
  · rw [(back_at_old (any := true) h5 h6 p).2] at hbb
    exact hb.2.1 ⟨r, p, x, h7, hbb⟩

/-- What the callee's frozen blocks are to the caller. -/
theorem back_okz2 (h : Inv E w0) (hf : Fits E.S ρ S0) (hl : ρ.length ≤ E2.S.length) (ev : Evo (E.to ρ S0 L) E2) (_h2 : Inv E2 E.w) {k b : Nat} (hk : k ≠ L) (hb : E2.okz k b) : (E.back E2 ρ).okz k b := by
  have hN : E2.N = E.w.heap.size := ev.N
  have hK : ∀ b, E2.K k b → E.okz k b ∨ (k = 0 ∧ ∃ r p x, r ∈ ρ ∧ E.S.at true r p = some x ∧ E.φ r p = b) := fun b hb => by
    rw [ev.K] at hb
    rcases hb with hb | hb
    · exact absurd hb hk
    · exact hb
  refine ⟨hb.1, ?_, fun hlt => ?_⟩
  · rintro ⟨r, p, x, hx, hbb⟩
    rcases back_at hf hl hx with ⟨i, x1, rfl, hx1, _⟩ | ⟨h5, h6, h7⟩
    · rw [back_phi hf] at hbb
      exact hb.2.1 ⟨i, p, x1, hx1, hbb⟩
    · rw [(back_at_old (any := true) h5 h6 p).2] at hbb
      have hown : E.own b := ⟨r, p, x, h7, hbb⟩
      rcases hK b (hb.2.2 (by rw [hN]; exact (Env.own_lt h hown).2)) with this | ⟨_, r2, p2, x2, hm, h8, h9⟩
      · exact this.2.1 hown
      · have := (h.inj _ _ _ _ _ _ h7 h8 (hbb.trans h9.symm)).1
        exact h5 (this ▸ hm)
  · have hlt' : b < E.w.heap.size := Nat.lt_of_lt_of_le (show b < E.N from hlt) (Nat.le_trans h.hN h.below.size)
    rcases hK b (hb.2.2 (by rw [hN]; exact hlt')) with this | ⟨rfl, r2, p2, x2, hm, h8, h9⟩
    · exact this.2.2 hlt
    · have := h.frz _ _ _ h8 (by rw [h9]; exact hlt)
      rw [h9] at this
      exact this

theorem back_hidden (h : Inv E w0) (hf : Fits E.S ρ S0) (_hl : ρ.length ≤ E2.S.length) (ev : Evo (E.to ρ S0 L) E2) (_h2 : Inv E2 E.w) {r : Nat} {p : List Nat} {x : Nat × List T} (hx : E.S.at true r p = some x) (hr : r ∉ ρ) : E2.w.heap[E.φ r p]? = E.w.heap[E.φ r p]? :=
  (ev.fz L _ (to_hidden h hf hx hr)).2

theorem back_evo (h : Inv E w0) (hf : Fits E.S ρ S0) (hl : ρ.length ≤ E2.S.length) (ev : Evo (E.to ρ S0 L) E2) (h2 : Inv E2 E.w) : Evo E (E.back E2 ρ) := by
  refine ⟨rfl, rfl, rfl, by show _ ≤ (backS ρ E.S E2.S).length; rw [backS_length]; omega, fun k b hb => back_okz h hf hl ev h2 hb, fun r p e cs' hr hx => ?_⟩
  by_cases hm : r ∈ ρ
  · obtain ⟨i, hi, he⟩ := List.mem_iff_getElem.1 hm
    have hri : ρ[i]? = some r := by rw [List.getElem?_eq_getElem hi, he]
    have he' : r = backId ρ E.S.length i := (backId_lt hri).symm
    have hphi : (E.back E2 ρ).φ r p = E2.φ i p := by rw [he', back_phi hf]
    rw [he', back_at_new hf hl] at hx
    obtain ⟨x1, hx1, hx2⟩ := Option.map_eq_some_iff.1 hx
    simp only [Prod.mk.injEq] at hx2
    obtain ⟨rfl, rfl⟩ := hx2
    obtain ⟨⟨cs, h3⟩, h4, h5⟩ := ev.node i p x1.1 x1.2 (by show i < S0.length; rw [← hf.len]; exact hi) hx1
    have hphi2 : (E.to ρ S0 L).φ i p = E.φ r p := by simp [Env.to, List.getD_eq_getElem?_getD, hri]
    rw [to_at' hf hri] at h3
    refine ⟨⟨cs, h3⟩, hphi.trans (h4.trans hphi2), fun arr ty mk ha => ?_⟩
    have := h5 arr ty mk (by rw [hphi2]; exact ha)
    rw [hphi2] at this
    exact this
  · obtain ⟨h3, h4⟩ := back_at_old (E := E) (E2 := E2) (any := false) hm hr p
    rw [h3] at hx
    exact ⟨⟨cs', hx⟩, h4, fun arr ty mk ha => ⟨arr, (back_hidden h hf hl ev h2 (Store.at_any hx) hm).trans ha, rfl⟩⟩

theorem back_tr (h : Inv E w0) (hf : Fits E.S ρ S0) (hl : ρ.length ≤ E2.S.length) (ev : Evo (E.to ρ S0 L) E2) (h2 : Inv E2 E.w) : ∀ (t : T) (v : Value), allT (leafFree L) t = true → TR E2 t v → TR (E.back E2 ρ) (ren (backId ρ E.S.length) t) v
  | .v x, v, _, ht => by cases ht; exact .v _
  | .sl false k n e cs, v, hL, ht => by
    have hk : k ≠ L := by simpa [allT, leafFree] using hL
    cases ht with
    | sl hz => exact .sl (hz.evo fun b hb => ⟨back_okz2 h hf hl ev h2 hk hb, rfl⟩)
  | .sl true k n e cs, v, _, ht => by cases ht
  | .ref r p off n, v, _, ht => by
    cases ht with
    | ref hr hh =>
      refine .ref ?_ fun e cs hx => ?_
      · show backId ρ E.S.length r < (backS ρ E.S E2.S).length
        rw [backS_length]
        rcases Nat.lt_or_ge r ρ.length with hi | hi
        · rw [backId_lt (List.getElem?_eq_getElem hi)]
          have := hf.lt _ (List.getElem_mem hi)
          omega
        · rw [backId_ge hi]; omega
      · rw [back_at_new hf hl] at hx
        obtain ⟨x1, hx1, hx2⟩ := Option.map_eq_some_iff.1 hx
        simp only [Prod.mk.injEq] at hx2
        obtain ⟨rfl, rfl⟩ := hx2
        rw [back_phi hf]
        exact hh x1.1 x1.2 hx1
  | .ptr r p off, v, _, ht => by
    cases ht with
    | ptr hr hh =>
      refine .ptr ?_ fun x hx => ?_
      · show backId ρ E.S.length r < (backS ρ E.S E2.S).length
        rw [backS_length]
        rcases Nat.lt_or_ge r ρ.length with hi | hi
        · rw [backId_lt (List.getElem?_eq_getElem hi)]
          have := hf.lt _ (List.getElem_mem hi)
          omega
        · rw [backId_ge hi]; omega
      · rw [back_at_new hf hl] at hx
        obtain ⟨x1, hx1, hx2⟩ := Option.map_eq_some_iff.1 hx
        rw [back_phi hf]
        exact hh x1 hx1
  | .pz k cs off, v, hL, ht => by
    have hk : k ≠ L := by simpa [allT, leafFree] using hL
    cases ht with
    | pz f hok hcell hrec => exact .pz f (back_okz2 h hf hl ev h2 hk hok) hcell (fun j c hj => (hrec j c hj).evo fun b hb => ⟨back_okz2 h hf hl ev h2 hk hb, rfl⟩)
  | .agg cs, v, hL, ht => by
    cases ht with
    | agg hs hh =>
      rw [ren, rens_map]
      refine .agg (by rw [List.length_map]; exact hs) fun i t hi => ?_
      rw [List.getElem?_map] at hi
      obtain ⟨c, hc, rfl⟩ := Option.map_eq_some_iff.1 hi
      exact back_tr h hf hl ev h2 c _ (allTs_at cs (by simpa [allT] using hL) i c hc) (hh i c hc)
  | .tup cs, v, hL, ht => by
    cases ht with
    | tup hs hh =>
      rw [ren, rens_map]
      refine .tup (by rw [List.length_map]; exact hs) fun i t hi => ?_
      rw [List.getElem?_map] at hi
      obtain ⟨c, hc, rfl⟩ := Option.map_eq_some_iff.1 hi
      exact back_tr h hf hl ev h2 c _ (allTs_at cs (by simpa [allT] using hL) i c hc) (hh i c hc)
  | .clo f cs, v, hL, ht => by
    cases ht with
    | clo hs hh =>
      rw [ren, rens_map]
      refine .clo (by rw [List.length_map]; exact hs) fun i t hi => ?_
      rw [List.getElem?_map] at hi
      obtain ⟨c, hc, rfl⟩ := Option.map_eq_some_iff.1 hi
      exact back_tr h hf hl ev h2 c _ (allTs_at cs (by simpa [allT] using hL) i c hc) (hh i c hc)
  | .dead, v, _, ht => .dead _
termination_by t => SizeOf.sizeOf t
decreasing_by
  all_goals
    have h1 := List.mem_of_getElem? hc
    have h2 := List.sizeOf_lt_of_mem h1
    simp only [T.agg.sizeOf_spec, T.tup.sizeOf_spec, T.clo.sizeOf_spec]
    omega

/-- No cell of the roots shows the tag that was lent. -/
def FreeS (L : Nat) (S : Store) : Prop := ∀ x ∈ S, x.live = true → allTs (leafFree L) x.cs = true

theorem FreeS.at {L : Nat} {S : Store} (hs : FreeS L S) {any : Bool} {r : Nat} {p : List Nat} {x : Nat × List T} (hx : S.at any r p = some x) : allTs (leafFree L) x.2 = true := by
  unfold Store.at at hx
  cases hr : S[r]? with
  | none => rw [hr] at hx; cases hx
  | some y =>
    rw [hr] at hx
    simp only at hx
    split at hx
    · rename_i hlv
      exact allTs_cellsAt p y.e y.cs x (hs y (List.mem_of_getElem? hr) hlv) hx
    · cases hx

theorem back_inv (hL : L ≠ 0) (h : Inv E w0) (hf : Fits E.S ρ S0) (hl : ρ.length ≤ E2.S.length) (ev : Evo (E.to ρ S0 L) E2) (h2 : Inv E2 E.w) (hs : FreeS L E2.S) : Inv (E.back E2 ρ) w0 := by
  have ev' := back_evo h hf hl ev h2
  have hB : E2.B = E.B := ev.B
  refine ⟨h.below.trans (by have := h2.below; rw [hB] at this; exact this), h.hB, h.hN, fun r p e cs hx => ?_, fun r p x r' p' x' hx hx' hb => ?_, fun r p x hx hlt => ?_⟩
  · rcases back_at hf hl hx with ⟨i, x1, rfl, hx1, hx2⟩ | ⟨h5, h6, h7⟩
    · simp only [Prod.mk.injEq] at hx2
      obtain ⟨rfl, rfl⟩ := hx2
      obtain ⟨arr, ty, mk, a1, a2, a3, a4, a5⟩ := h2.blk i p x1.1 x1.2 hx1
      refine ⟨arr, ty, mk, by rw [back_phi hf]; exact a1, by rw [rens_length]; exact a2, a3, by rw [back_phi hf, show (E.back E2 ρ).B = E2.B from hB.symm]; exact a4, fun j c hc => ?_⟩
      rw [rens_map, List.getElem?_map] at hc
      obtain ⟨c1, hc1, rfl⟩ := Option.map_eq_some_iff.1 hc
      have hfree := allTs_at x1.2 (hs.at hx1) j c1 hc1
      cases a5 j c1 hc1 with
      | v _ hv => exact .v _ hv
      | fz hz =>
        rename_i k n e cs
        have hk : k ≠ L := by simpa [allT, leafFree] using hfree
        exact .fz (hz.evo fun b hb => ⟨back_okz2 h hf hl ev h2 hk hb, rfl⟩)
      | own hn hv =>
        refine .own (by rw [rens_length]; exact hn) ?_
        rw [back_phi hf]; exact hv
      | ref hv ht => exact .ref hv (back_tr h hf hl ev h2 _ _ rfl ht)
      | dead _ hv => exact .dead _ hv
    · obtain ⟨arr, ty, mk, a1, a2, a3, a4, a5⟩ := h.blk r p e cs h7
      have hphi := fun q => (back_at_old (E := E) (E2 := E2) (any := true) h5 h6 q).2
      refine ⟨arr, ty, mk, by rw [hphi]; exact (back_hidden h hf hl ev h2 h7 h5).trans a1, a2, a3, by rw [hphi]; exact a4, fun j c hc => ?_⟩
      cases a5 j c hc with
      | v _ hv => exact .v _ hv
      | fz hz => exact .fz (hz.evo fun b hb => back_okz h hf hl ev h2 hb)
      | own hn hv =>
        refine .own hn ?_
        rw [hphi]
        have hat : ∃ y, E.S.at true r (p ++ [j]) = some y := by
          rw [Store.at_append, h7]
          exact ⟨_, by simp [cellsAt, hc]; rfl⟩
        obtain ⟨y, hy⟩ := hat
        exact hv.evo fun arr ty mk ha => ⟨arr, (back_hidden h hf hl ev h2 hy h5).trans ha, rfl⟩
      | ref hv ht => exact .ref hv (ht.evo ev')
      | dead _ hv => exact .dead _ hv
  · have hid : ∀ (i : Nat) (q : List Nat) (y : Nat × List T) (r : Nat) (p : List Nat) (x : Nat × List T), E2.S.at true i q = some y → r ∉ ρ → E.S.at true r p = some x → E2.φ i q ≠ E.φ r p := by
      intro i q y r p x hy hr hx he
      have := (ev.fz L _ (to_hidden h hf hx hr)).1
      exact this.2.1 ⟨i, q, y, hy, he⟩
    rcases back_at hf hl hx with ⟨i, x1, rfl, hx1, _⟩ | ⟨h5, h6, h7⟩ <;> rcases back_at hf hl hx' with ⟨i', x1', rfl, hx1', _⟩ | ⟨h5', h6', h7'⟩
    · rw [back_phi hf, back_phi hf] at hb
      obtain ⟨e1, e2⟩ := h2.inj _ _ _ _ _ _ hx1 hx1' hb
      exact ⟨by rw [e1], e2⟩
    · rw [back_phi hf, (back_at_old (any := true) h5' h6' p').2] at hb
      exact absurd hb (hid _ _ _ _ _ _ hx1 h5' h7')
    · rw [back_phi hf, (back_at_old (any := true) h5 h6 p).2] at hb
      exact absurd hb.symm (hid _ _ _ _ _ _ hx1' h5 h7)
    · rw [(back_at_old (any := true) h5 h6 p).2, (back_at_old (any := true) h5' h6' p').2] at hb
      exact h.inj _ _ _ _ _ _ h7 h7' hb
  · rcases back_at hf hl hx with ⟨i, x1, rfl, hx1, _⟩ | ⟨h5, h6, h7⟩
    · rw [back_phi hf] at hlt ⊢
      have hlt1 : E2.φ i p < E.N := hlt
      have hlt2 : E2.φ i p < E2.N := by rw [ev.N]; exact Nat.lt_of_lt_of_le hlt1 (Nat.le_trans h.hN h.below.size)
      have hk := h2.frz _ _ _ hx1 hlt2
      rw [ev.K] at hk
      rcases hk with hk | hk | ⟨_, r2, p2, x2, hm, h8, h9⟩
      · exact absurd hk hL.symm
      · exact hk.2.2 hlt1
      · have := h.frz _ _ _ h8 (by rw [h9]; exact hlt1)
        rw [h9] at this
        exact this
    · rw [(back_at_old (any := true) h5 h6 p).2] at hlt ⊢
      exact h.frz _ _ _ h7 hlt

end

/-- A contract over a few roots is one over more. -/
theorem CallsT.frame {P : Program} {S0 S1 : Store} {g : FuncId} {args2 : List T} {res2 : T} (hc : CallsT P S0 g args2 res2 S1) {S : Store} {ρ : List Nat} {args : List T} {rt : Bool} (L : Nat) (hL : L ≠ 0) (hf : Fits S ρ S0)
    {args1 : List T} (hk : Wks args args1) (ha : lendTs rt S ρ L args1 = some args2) (hr : allT (leafFree L) res2 = true) (hs : FreeS L S1) (hl : ρ.length ≤ S1.length) : CallsT P S g args (ren (backId ρ S.length) res2) (backS ρ S S1) := by
  refine ⟨hc.fn, fun E w0 vals hS hI hsz ht => ?_⟩
  subst hS
  obtain ⟨hl2, hat⟩ := lendTs_at args1 args2 ha
  refine (hc.run (E.to ρ S0 L) E.w vals rfl (to_inv hI hf) ((hsz.trans hk.at.1).trans hl2.symm) fun i t hi => ?_).mono fun e w' hh => ?_
  · obtain ⟨c, hc1, hd⟩ := hat i t hi
    have hlt := (List.getElem?_eq_some_iff.1 hc1).1
    obtain ⟨c0, hc0⟩ : ∃ c0, args[i]? = some c0 := ⟨_, List.getElem?_eq_getElem (hk.at.1 ▸ hlt)⟩
    exact lend_tr hI hf c t _ hd ((ht i c0 hc0).wk (hk.at.2 i c0 c hc0 hc1))
  · obtain ⟨v, E2, rfl, rfl, rfl, h2, ev, htr⟩ := hh
    exact ⟨v, E.back E2 ρ, rfl, rfl, rfl, back_inv hL hI hf hl ev h2 hs, back_evo hI hf hl ev h2, back_tr hI hf hl ev h2 _ _ hr htr⟩

end Go.TL
