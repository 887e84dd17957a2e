/- Rows of own rows that a callee moves without a look into them. No conditions. -/
import Derived.Test.YtneiifghegdfgaaTB2
namespace Go.TL
set_option linter.unusedSimpArgs false
open Go.RowKit

/-- Plain values, own rows, empty rows. -/
inductive PlainO : T → Prop
  | v (x : Value) : PlainO (.v x)
  | own (k n e : Nat) (cs : List T) : PlainO (.sl true k n e cs)
  | nil (k n e : Nat) : PlainO (.sl false k n e [])
/-- A cell whose row is not looked into. -/
def opqC (v : Value) : T → T
  | .sl _ _ _ _ _ => .v v
  | c => c
def opqL (V : Nat → Value) (cs : List T) : List T := cs.mapIdx fun j c => opqC (V j) c
def opqS (V : Nat → Nat → Value) (S : Store) : Store := S.mapIdx fun r x => ⟨x.e, x.live, opqL (V r) x.cs⟩
def qpick (S : Store) (s : Nat × Nat) : T := ((S[s.1]?).bind fun x => x.cs[s.2]?).getD .dead
def qdead (S : Store) : Store := S.map fun x => ⟨x.e, false, []⟩

theorem PlainO.opq {c : T} (h : PlainO c) (v : Value) : (∃ x, c = .v x ∧ opqC v c = .v x) ∨ ((∃ o k n e cs, c = .sl o k n e cs) ∧ opqC v c = .v v) := by
  cases h with
  | v x => exact .inl ⟨x, rfl, rfl⟩
  | own k n e cs => exact .inr ⟨⟨_, _, _, _, _, rfl⟩, rfl⟩
  | nil k n e => exact .inr ⟨⟨_, _, _, _, _, rfl⟩, rfl⟩

theorem opqL_noOwn {V : Nat → Value} {cs : List T} (h : ∀ c ∈ cs, PlainO c) : NoOwn (opqL V cs) := by
  intro j k n e cs' hj
  unfold opqL at hj
  rw [List.getElem?_mapIdx] at hj
  obtain ⟨c, hc, he⟩ := Option.map_eq_some_iff.1 hj
  rcases (h c (List.mem_of_getElem? hc)).opq (V j) with ⟨x, _, h2⟩ | ⟨_, h2⟩ <;> rw [h2] at he <;> cases he

theorem opqS_at {V : Nat → Nat → Value} {S : Store} (hp : ∀ (r : Nat) (x : Root), S[r]? = some x → ∀ c ∈ x.cs, PlainO c) {any : Bool} {r : Nat} {p : List Nat} {y : Nat × List T} (h : (opqS V S).at any r p = some y) :
    p = [] ∧ ∃ x : Root, S[r]? = some x ∧ x.live = true ∧ y = (x.e, opqL (V r) x.cs) ∧ ∀ any, S.at any r [] = some (x.e, x.cs) := by
  unfold Store.at opqS at h
  rw [List.getElem?_mapIdx] at h
  cases hr : S[r]? with
  | none => rw [hr] at h; cases h
  | some x =>
    rw [hr] at h
    dsimp only [Option.map_some] at h
    split at h
    · rename_i hl
      obtain ⟨h1, h2⟩ := cellsAt_noOwn (opqL_noOwn (hp r x hr)) h
      exact ⟨h1, x, rfl, hl, h2, fun any => by unfold Store.at; rw [hr]; simp [hl, cellsAt]⟩
    · cases h

section
variable {E : Env} {w0 : World} {S : Store}

/-- Own rows in cells: what is not shown. -/
def hidO (E : Env) (b : Nat) : Prop := ∃ r j p x, E.S.at true r (j :: p) = some x ∧ E.φ r (j :: p) = b
def shownO (E : Env) (b : Nat) : Prop := ∃ r x, E.S.at true r [] = some x ∧ E.φ r [] = b
def Env.opq (E : Env) (V : Nat → Nat → Value) : Env := { w := E.w, S := opqS V E.S, φ := E.φ, B := E.B, N := E.w.heap.size, K := fun k b => E.okz k b ∨ hidO E b ∨ (k = 0 ∧ shownO E b) }

open Classical in
/-- The values that lie in the cells. -/
noncomputable def Env.val (E : Env) (r j : Nat) : Value :=
  match E.w.heap[E.φ r []]? with
  | some (.cells arr _ _) => if (arr.getD j undef).oneCell' = true then arr.getD j undef else .bool false
  | _ => .bool false
theorem val_one (E : Env) (r j : Nat) : (E.val r j).oneCell' = true := by
  unfold Env.val
  split
  · split
    · assumption
    · rfl
  · rfl

theorem opq_own {V : Nat → Nat → Value} (hp : ∀ (r : Nat) (x : Root), E.S[r]? = some x → ∀ c ∈ x.cs, PlainO c) {b : Nat} (h : (E.opq V).own b) : shownO E b := by
  obtain ⟨r, p, x, hx, hb⟩ := h
  obtain ⟨rfl, y, _, _, _, h1⟩ := opqS_at hp hx
  exact ⟨r, _, h1 true, hb⟩
theorem shown_own {b : Nat} (h : shownO E b) : E.own b := by
  obtain ⟨r, x, hx, hb⟩ := h
  exact ⟨r, [], x, hx, hb⟩
theorem hid_own {b : Nat} (h : hidO E b) : E.own b := by
  obtain ⟨r, j, p, x, hx, hb⟩ := h
  exact ⟨r, _, x, hx, hb⟩
theorem hid_shown (h : Inv E w0) {b : Nat} (h1 : hidO E b) (h2 : shownO E b) : False := by
  obtain ⟨r, j, p, x, hx, hb⟩ := h1
  obtain ⟨r', x', hx', hb'⟩ := h2
  have := (h.inj _ _ _ _ _ _ hx hx' (hb.trans hb'.symm)).2
  cases this
theorem opq_okz {V : Nat → Nat → Value} (hp : ∀ (r : Nat) (x : Root), E.S[r]? = some x → ∀ c ∈ x.cs, PlainO c) {k b : Nat} (h : E.okz k b) : (E.opq V).okz k b :=
  ⟨h.1, fun ho => h.2.1 (shown_own (opq_own hp ho)), fun _ => .inl h⟩
theorem opq_hid {V : Nat → Nat → Value} (h : Inv E w0) (hp : ∀ (r : Nat) (x : Root), E.S[r]? = some x → ∀ c ∈ x.cs, PlainO c) {b : Nat} (hb : hidO E b) (k : Nat) : (E.opq V).okz k b :=
  ⟨(Env.own_lt h (hid_own hb)).2, fun ho => hid_shown h hb (opq_own hp ho), fun _ => .inr (.inl hb)⟩

theorem opq_inv (h : Inv E w0) (hp : ∀ (r : Nat) (x : Root), E.S[r]? = some x → ∀ c ∈ x.cs, PlainO c) : Inv (E.opq E.val) E.w := by
  refine ⟨Below.refl _ _, ⟨Nat.le_trans h.hB.1 h.below.size, h.hB.2.mono h.below⟩, Nat.le_refl _, fun r p e cs hx => ?_, fun r p x r' p' x' hx hx' hb => ?_, fun r p x hx _ => ?_⟩
  · obtain ⟨rfl, y, hy, hlive, hcs, h1⟩ := opqS_at hp hx
    simp only [Prod.mk.injEq] at hcs
    obtain ⟨rfl, rfl⟩ := hcs
    obtain ⟨arr, ty, mk, a1, a2, a3, a4, a5⟩ := h.blk r [] y.e y.cs (h1 true)
    refine ⟨arr, ty, mk, a1, by rw [opqL, List.length_mapIdx]; exact a2, a3, a4, fun j c hc => ?_⟩
    unfold opqL at hc
    rw [List.getElem?_mapIdx] at hc
    obtain ⟨c0, hc0, rfl⟩ := Option.map_eq_some_iff.1 hc
    have hcr := a5 j c0 hc0
    have hone := hcr.oneCell
    have hv : E.val r j = arr.getD j undef := by
      unfold Env.val
      rw [a1]
      dsimp only
      rw [if_pos hone]
    rcases (hp r y hy c0 (List.mem_of_getElem? hc0)).opq (E.val r j) with ⟨x, rfl, h2⟩ | ⟨_, h2⟩
    · rw [h2]
      cases hcr with
      | v _ hx => exact .v _ hx
    · rw [h2, hv]
      exact .v _ hone
  · obtain ⟨rfl, y, _, _, _, h1⟩ := opqS_at hp hx
    obtain ⟨rfl, y', _, _, _, h1'⟩ := opqS_at hp hx'
    exact h.inj _ _ _ _ _ _ (h1 true) (h1' true) hb
  · obtain ⟨rfl, y, _, _, _, h1⟩ := opqS_at hp hx
    exact .inr (.inr ⟨rfl, r, _, h1 true, rfl⟩)

theorem opq_tr {V : Nat → Nat → Value} (hp : ∀ (r : Nat) (x : Root), E.S[r]? = some x → ∀ c ∈ x.cs, PlainO c) {t : T} {v : Value} (ht : TR E t v) : TR (E.opq V) t v := by
  induction ht with
  | v x => exact .v x
  | sl hf => exact .sl (hf.evo fun b hb => ⟨opq_okz hp hb, rfl⟩)
  | ref hr hx =>
    refine .ref (by show _ < (opqS V E.S).length; rw [opqS, List.length_mapIdx]; exact hr) fun e cs' hn => ?_
    obtain ⟨rfl, y, _, _, hcs, h1⟩ := opqS_at hp hn
    simp only [Prod.mk.injEq] at hcs
    rw [hcs.1]
    exact hx _ _ (h1 false)
  | ptr hr hx =>
    refine .ptr (by show _ < (opqS V E.S).length; rw [opqS, List.length_mapIdx]; exact hr) fun x hn => ?_
    obtain ⟨rfl, y, _, _, _, h1⟩ := opqS_at hp hn
    exact hx _ (h1 false)
  | pz f hok hcell hrec => exact .pz f (opq_okz hp hok) hcell (fun j c hj => (hrec j c hj).evo fun b hb => ⟨opq_okz hp hb, rfl⟩)
  | agg hs _ ih => exact .agg hs ih
  | tup hs _ ih => exact .tup hs ih
  | clo hs _ ih => exact .clo hs ih
  | dead val => exact .dead val

/-- Behind the call: the rows lie where the picked cells say. -/
def Env.unq (E E1 : Env) (q e : Nat) (σ : List (Nat × Nat)) : Env :=
  { w := E1.w, S := qdead E.S ++ [⟨e, true, σ.map (qpick E.S)⟩], φ := fun r p => if r = E.S.length then (match p with | [] => E1.φ q [] | j :: p' => E.φ (σ.getD j (0, 0)).1 ((σ.getD j (0, 0)).2 :: p')) else E.φ r p, B := E.B, N := E.N, K := E.K }

theorem qdead_at {any : Bool} {r : Nat} {p : List Nat} : Store.at any (qdead S) r p = none := by
  unfold Store.at qdead
  rw [List.getElem?_map]
  cases S[r]? <;> rfl

variable {E1 : Env} {q e : Nat} {σ : List (Nat × Nat)}
theorem unq_at (hσ : ∀ s ∈ σ, ∃ x : Root, E.S[s.1]? = some x ∧ x.live = true ∧ s.2 < x.cs.length) {any : Bool} {r : Nat} {p : List Nat} {y : Nat × List T} (h : (E.unq E1 q e σ).S.at any r p = some y) :
    r = E.S.length ∧ ((p = [] ∧ y = (e, σ.map (qpick E.S)) ∧ (E.unq E1 q e σ).φ r p = E1.φ q []) ∨ ∃ j p' s, p = j :: p' ∧ σ[j]? = some s ∧ E.S.at any s.1 (s.2 :: p') = some y ∧ ∀ p2, (E.unq E1 q e σ).φ r (j :: p2) = E.φ s.1 (s.2 :: p2)) := by
  unfold Env.unq at h
  dsimp only at h
  rw [Store.at_push] at h
  have hl : (qdead E.S).length = E.S.length := by rw [qdead, List.length_map]
  split at h
  · rename_i er
    rw [hl] at er
    subst er
    refine ⟨rfl, ?_⟩
    simp only [if_true] at h
    cases p with
    | nil =>
      simp only [cellsAt, Option.some.injEq] at h
      exact .inl ⟨rfl, h.symm, by simp [Env.unq]⟩
    | cons j p' =>
      right
      unfold cellsAt at h
      rw [List.getElem?_map] at h
      cases hs : σ[j]? with
      | none => rw [hs] at h; cases h
      | some s =>
        rw [hs] at h
        obtain ⟨x, hx, hlive, hlt⟩ := hσ s (List.mem_of_getElem? hs)
        have hpk : qpick E.S s = x.cs[s.2] := by
          unfold qpick
          rw [hx]
          simp [List.getElem?_eq_getElem hlt]
        rw [Option.map_some, hpk] at h
        refine ⟨j, p', s, rfl, hs, ?_, fun p2 => by simp [Env.unq, List.getD_eq_getElem?_getD, hs]⟩
        unfold Store.at
        rw [hx]
        simp only [hlive, if_true]
        unfold cellsAt
        rw [List.getElem?_eq_getElem hlt]
        exact h
  · rw [qdead_at] at h; cases h

theorem hid_same {V : Nat → Nat → Value} (h : Inv E w0) (hp : ∀ (r : Nat) (x : Root), E.S[r]? = some x → ∀ c ∈ x.cs, PlainO c) (ev : Evo (E.opq V) E1) {b : Nat} (hb : hidO E b) : E1.w.heap[b]? = E.w.heap[b]? ∧ ¬ E1.own b :=
  ⟨(ev.fz 0 b (opq_hid h hp hb 0)).2, (ev.fz 0 b (opq_hid h hp hb 0)).1.2.1⟩

theorem unq_own (hσ : ∀ s ∈ σ, ∃ x : Root, E.S[s.1]? = some x ∧ x.live = true ∧ s.2 < x.cs.length) {b : Nat} (h : (E.unq E1 q e σ).own b) : E1.φ q [] = b ∨ hidO E b := by
  obtain ⟨r, p, y, hy, hb⟩ := h
  obtain ⟨_, ⟨_, _, h2⟩ | ⟨j, p', s, rfl, _, h3, h4⟩⟩ := unq_at hσ hy
  · exact .inl (h2.symm.trans hb)
  · exact .inr ⟨s.1, s.2, p', y, h3, (h4 p').symm.trans hb⟩

theorem unq_okz {V : Nat → Nat → Value} (hp : ∀ (r : Nat) (x : Root), E.S[r]? = some x → ∀ c ∈ x.cs, PlainO c) (ev : Evo (E.opq V) E1) (hσ : ∀ s ∈ σ, ∃ x : Root, E.S[s.1]? = some x ∧ x.live = true ∧ s.2 < x.cs.length)
    (hq : ∃ y, E1.S.at true q [] = some y) {k b : Nat} (hb : E.okz k b) : (E.unq E1 q e σ).okz k b ∧ E1.w.heap[b]? = E.w.heap[b]? := by
  obtain ⟨h1, h2⟩ := ev.fz k b (opq_okz hp hb)
  obtain ⟨y, hy⟩ := hq
  refine ⟨⟨h1.1, fun ho => ?_, hb.2.2⟩, h2⟩
  rcases unq_own hσ ho with h3 | h3
  · exact h1.2.1 ⟨q, [], y, hy, h3⟩
  · exact hb.2.1 (hid_own h3)

theorem unq_inv (h : Inv E w0) (hp : ∀ (r : Nat) (x : Root), E.S[r]? = some x → ∀ c ∈ x.cs, PlainO c) (ev : Evo (E.opq E.val) E1) (h1 : Inv E1 E.w) (hσ : ∀ s ∈ σ, ∃ x : Root, E.S[s.1]? = some x ∧ x.live = true ∧ s.2 < x.cs.length) (hnd : σ.Nodup)
    {rest : List T} (hq : ∀ any, E1.S.at any q [] = some (e, σ.map (fun s => opqC (E.val s.1 s.2) (qpick E.S s)) ++ rest)) : Inv (E.unq E1 q e σ) w0 := by
  have hB : E1.B = E.B := ev.B
  have hidv : ∀ {s : Nat × Nat} {p : List Nat} {y : Nat × List T}, E.S.at true s.1 (s.2 :: p) = some y → hidO E (E.φ s.1 (s.2 :: p)) := fun hy => ⟨_, _, _, _, hy, rfl⟩
  refine ⟨h.below.trans (by have := h1.below; rw [hB] at this; exact this), h.hB, h.hN, fun r p e' cs hx => ?_, fun r p x r' p' x' hx hx' hb => ?_, fun r p x hx hlt => ?_⟩
  · obtain ⟨rfl, ⟨rfl, hy, h2⟩ | ⟨j, p', s, rfl, hs, h3, h4⟩⟩ := unq_at hσ hx
    · simp only [Prod.mk.injEq] at hy
      obtain ⟨rfl, rfl⟩ := hy
      rw [h2]
      obtain ⟨arr, ty, mk, a1, a2, a3, a4, a5⟩ := h1.blk q [] _ _ (hq true)
      refine ⟨arr, ty, mk, a1, by rw [List.length_append, List.length_map] at a2; rw [List.length_map]; omega, a3, hB ▸ a4, fun j c hc => ?_⟩
      rw [List.getElem?_map] at hc
      obtain ⟨s, hs, rfl⟩ := Option.map_eq_some_iff.1 hc
      have hlt := (List.getElem?_eq_some_iff.1 hs).1
      have hcr := a5 j (opqC (E.val s.1 s.2) (qpick E.S s)) (by rw [List.getElem?_append_left (by rw [List.length_map]; exact hlt), List.getElem?_map, hs]; rfl)
      obtain ⟨x, hx1, hlive, hltc⟩ := hσ s (List.mem_of_getElem? hs)
      have hpk : qpick E.S s = x.cs[s.2] := by
        unfold qpick
        rw [hx1]
        simp [List.getElem?_eq_getElem hltc]
      have hat : E.S.at true s.1 [] = some (x.e, x.cs) := by unfold Store.at; rw [hx1]; simp [hlive, cellsAt]
      obtain ⟨arr0, ty0, mk0, b1, b2, b3, b4, b5⟩ := h.blk s.1 [] x.e x.cs hat
      have hcr0 := b5 s.2 _ (List.getElem?_eq_getElem hltc)
      have hone := hcr0.oneCell
      have hv : E.val s.1 s.2 = arr0.getD s.2 undef := by
        unfold Env.val
        rw [b1]
        dsimp only
        rw [if_pos hone]
      rw [hpk] at hcr ⊢
      have hpl := hp s.1 x hx1 _ (List.getElem_mem hltc)
      generalize hcc : x.cs[s.2] = c at *
      generalize arr.getD j undef = val at *
      rw [hv] at hcr
      generalize arr0.getD s.2 undef = val0 at *
      cases hpl with
      | v y => cases hcr with | v _ hh => exact .v _ hh
      | own k n e2 cs2 =>
        have he : val0 = val := by cases hcr; rfl
        subst he
        cases hcr0 with
        | own hn hsl =>
          refine .own hn ?_
          have hat2 : E.S.at true s.1 [s.2] = some (e2, cs2) := by
            have := Store.at_append true E.S s.1 [] [s.2]
            rw [List.nil_append] at this
            rw [this, hat]
            simp [cellsAt, List.getElem?_eq_getElem hltc, hcc]
          have hph : (E.unq E1 q e' σ).φ E.S.length ([] ++ [j]) = E.φ s.1 [s.2] := by simp [Env.unq, List.getD_eq_getElem?_getD, hs]
          rw [hph]
          exact hsl.evo fun arr ty mk ha => ⟨arr, (hid_same h hp ev (hidv hat2)).1.trans ha, rfl⟩
      | nil k n e2 =>
        have he : val0 = val := by cases hcr; rfl
        subst he
        cases hcr0 with
        | fz hz =>
          cases hz with
          | sl b off f hn hc ha hcell hrec => exact .fz (.sl b off f hn hc (.inl rfl) (fun j c h => by simp at h) (fun j c h => by simp at h))
    · obtain ⟨arr, ty, mk, a1, a2, a3, a4, a5⟩ := h.blk s.1 (s.2 :: p') e' cs h3
      rw [h4]
      refine ⟨arr, ty, mk, (hid_same h hp ev (hidv h3)).1.trans a1, a2, a3, a4, fun i c hc => ?_⟩
      have hcr := a5 i c hc
      cases hcr with
      | v _ hv => exact .v _ hv
      | fz hz => exact .fz (hz.evo fun b hb => unq_okz hp ev hσ ⟨_, hq true⟩ hb)
      | own hn hv =>
        refine .own hn ?_
        rw [List.cons_append, h4]
        have hat : ∃ y, E.S.at true s.1 (s.2 :: (p' ++ [i])) = some y := by
          rw [← List.cons_append, Store.at_append, h3]
          exact ⟨_, by simp [cellsAt, hc]; rfl⟩
        obtain ⟨y, hy⟩ := hat
        exact hv.evo fun arr ty mk ha => ⟨arr, (hid_same h hp ev (hidv hy)).1.trans ha, rfl⟩
      | ref hv ht =>
        refine .ref hv ?_
        cases ht with
        | ref hr hh =>
          refine .ref (by show _ < (qdead E.S ++ _).length; rw [qdead, List.length_append, List.length_map]; omega) fun e2 cs2 hx2 => ?_
          have := (unq_at hσ hx2).1
          omega
      | dead _ hv => exact .dead _ hv
  · obtain ⟨rfl, ⟨rfl, _, h2⟩ | ⟨j, p1, s, rfl, hs, h3, h4⟩⟩ := unq_at hσ hx <;> obtain ⟨rfl, ⟨rfl, _, h2'⟩ | ⟨j', p1', s', rfl, hs', h3', h4'⟩⟩ := unq_at hσ hx'
    · exact ⟨rfl, rfl⟩
    · rw [h2, h4'] at hb
      exact absurd ⟨q, [], _, hq true, hb⟩ (hid_same h hp ev (hidv h3')).2
    · rw [h2', h4] at hb
      exact absurd ⟨q, [], _, hq true, hb.symm⟩ (hid_same h hp ev (hidv h3)).2
    · rw [h4, h4'] at hb
      obtain ⟨e1, e2⟩ := h.inj _ _ _ _ _ _ h3 h3' hb
      simp only [List.cons.injEq] at e2
      have es : s = s' := Prod.ext e1 e2.1
      subst es
      have := (List.getElem?_inj (List.getElem?_eq_some_iff.1 hs).1 hnd).1 (hs.trans hs'.symm)
      exact ⟨rfl, by rw [this, e2.2]⟩
  · obtain ⟨rfl, ⟨rfl, _, h2⟩ | ⟨j, p', s, rfl, hs, h3, h4⟩⟩ := unq_at hσ hx
    · rw [h2] at hlt ⊢
      have hlt1 : E1.φ q [] < E.N := hlt
      have hk := h1.frz q [] _ (hq true) (by rw [ev.N]; exact Nat.lt_of_lt_of_le hlt1 (Nat.le_trans h.hN h.below.size))
      rw [ev.K] at hk
      rcases hk with hk | ⟨r, j, p, x, hx, hb⟩ | ⟨_, r, x, hx, hb⟩
      · exact hk.2.2 hlt1
      · have := h.frz _ _ _ hx (by rw [hb]; exact hlt1)
        rw [hb] at this; exact this
      · have := h.frz _ _ _ hx (by rw [hb]; exact hlt1)
        rw [hb] at this; exact this
    · rw [h4] at hlt ⊢
      exact h.frz _ _ _ h3 hlt

theorem unq_evo (hp : ∀ (r : Nat) (x : Root), E.S[r]? = some x → ∀ c ∈ x.cs, PlainO c) (ev : Evo (E.opq E.val) E1) (hσ : ∀ s ∈ σ, ∃ x : Root, E.S[s.1]? = some x ∧ x.live = true ∧ s.2 < x.cs.length) (hq : ∃ y, E1.S.at true q [] = some y) : Evo E (E.unq E1 q e σ) := by
  refine ⟨rfl, rfl, rfl, by show _ ≤ (qdead E.S ++ _).length; rw [qdead, List.length_append, List.length_map]; omega, fun k b hb => unq_okz hp ev hσ hq hb, fun r p e1 cs hr hx => ?_⟩
  have := (unq_at hσ hx).1
  omega
end

/-- A callee that moves cells and does not look into the rows that lie in them. -/
theorem CallsT.opq {P : Program} {S : Store} {g : FuncId} {args : List T} {n e : Nat} {σ : List (Nat × Nat)} (hp : ∀ (r : Nat) (x : Root), S[r]? = some x → ∀ c ∈ x.cs, PlainO c)
    (hσ : ∀ s ∈ σ, ∃ x : Root, S[s.1]? = some x ∧ x.live = true ∧ s.2 < x.cs.length) (hnd : σ.Nodup)
    (H : ∀ V : Nat → Nat → Value, (∀ r j, (V r j).oneCell' = true) → ∃ q rest S1, (∀ any, Store.at any S1 q [] = some (e, σ.map (fun s => opqC (V s.1 s.2) (qpick S s)) ++ rest)) ∧ CallsT P (opqS V S) g args (.ref q [] 0 n) S1) :
    CallsT P S g args (.ref S.length [] 0 n) (qdead S ++ [⟨e, true, σ.map (qpick S)⟩]) := by
  refine ⟨?_, fun E w0 vals hS hI hsz ht => ?_⟩
  · obtain ⟨q, rest, S1, _, hc⟩ := H (fun _ _ => .bool false) fun _ _ => rfl
    exact hc.fn
  subst hS
  obtain ⟨q, rest, S1, hq, hc⟩ := H E.val (val_one E)
  refine (hc.run (E.opq E.val) E.w vals rfl (opq_inv hI hp) hsz fun i t hi => opq_tr hp (ht i t hi)).mono fun e' w' hh => ?_
  obtain ⟨v, E1, rfl, rfl, rfl, h1, ev, htr⟩ := hh
  refine ⟨v, E.unq E1 q e σ, rfl, rfl, rfl, unq_inv hI hp ev h1 hσ hnd hq, unq_evo hp ev hσ ⟨_, hq true⟩, ?_⟩
  cases htr with
  | ref hr hx =>
    refine .ref (by show _ < (qdead E.S ++ _).length; rw [qdead, List.length_append, List.length_map]; simp) fun e2 cs2 hx2 => ?_
    obtain ⟨_, ⟨_, hy, h2⟩ | ⟨j, p', s, hpp, _⟩⟩ := unq_at hσ hx2
    · simp only [Prod.mk.injEq] at hy
      rw [h2, hy.1]
      exact hx _ _ (hq false)
    · cases hpp

end Go.TL
