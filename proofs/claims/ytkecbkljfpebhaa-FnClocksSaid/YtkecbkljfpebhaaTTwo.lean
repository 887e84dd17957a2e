/- Two operations of a drawn region without an order between them: both orders. No conditions. -/
import Derived.Test.YtkecbkljfpebhaaTB2
namespace Go.TL
set_option linter.unusedSimpArgs false
open Go.RowKit

/-- Operations that call nothing. -/
def plainOp : Op → Bool
  | .move _ | .assign _ | .pick _ _ _ | .binOp _ _ _ _ _ | .unOp _ _ _ | .field _ _ _ | .index _ _ _ | .extract _ _ | .alloc _ | .box _ _ | .load _ _ | .store _ _ _ | .fieldAddr _ _ _ | .indexAddr _ _ _ | .build _ _ | .buildSlice _ _ _ | .makeSlice _ _ _ | .slice _ _ _ _ _ | .convert _ _ _ => true
  | .call c => match c.callee with
    | .builtin .append | .builtin .len => true
    | _ => false
  | _ => false

theorem plain_run {P : Program} {o : Oper} (h : plainOp o.op = true) (ρ : Operand → Value) (w : World) :
    (∃ v w', (execOp ρ o).run P w = .ok (.value v) w') ∨ (∃ w', (execOp ρ o).run P w = .ok .skip w') ∨ ∃ x w', (execOp ρ o).run P w = .halt x w' := by
  have hv : ∀ s : Sem Value, (∃ v w', (do pure (Next.value (← s)) : Sem Next).run P w = .ok (.value v) w') ∨ (∃ w', (do pure (Next.value (← s)) : Sem Next).run P w = .ok .skip w') ∨ ∃ x w', (do pure (Next.value (← s)) : Sem Next).run P w = .halt x w' := by
    intro s
    rw [Sem.run_bind]
    cases s.run P w with
    | ok v w' => exact .inl ⟨v, w', by simp [Result.andThen_ok]⟩
    | halt x w' => exact .inr (.inr ⟨x, w', rfl⟩)
  have hu : ∀ s : Sem Unit, (∃ v w', (do s; pure Next.skip : Sem Next).run P w = .ok (.value v) w') ∨ (∃ w', (do s; pure Next.skip : Sem Next).run P w = .ok .skip w') ∨ ∃ x w', (do s; pure Next.skip : Sem Next).run P w = .halt x w' := by
    intro s
    rw [Sem.run_bind]
    cases s.run P w with
    | ok v w' => exact .inr (.inl ⟨w', by simp [Result.andThen_ok]⟩)
    | halt x w' => exact .inr (.inr ⟨x, w', rfl⟩)
  unfold execOp
  cases ho : o.op with
  | move x => exact .inl ⟨_, w, rfl⟩
  | assign x => exact .inl ⟨_, w, rfl⟩
  | pick c x y =>
    show _ ∨ _ ∨ _
    rw [Sem.run_bind]
    cases (asBool (ρ c)).run P w with
    | ok v w' => exact .inl ⟨_, w', by simp [Result.andThen_ok]; rfl⟩
    | halt x w' => exact .inr (.inr ⟨x, w', rfl⟩)
  | binOp => exact hv _
  | unOp => exact hv _
  | field => exact hv _
  | index => exact hv _
  | extract => exact hv _
  | alloc => exact hv _
  | box => exact hv _
  | load => exact hv _
  | store => exact hu _
  | fieldAddr => exact hv _
  | indexAddr => exact hv _
  | build => exact hv _
  | buildSlice => exact hv _
  | makeSlice => exact hv _
  | slice => exact hv _
  | convert => exact hv _
  | call c =>
    obtain ⟨callee, args, tys⟩ := c
    rw [ho] at h
    cases callee with
    | builtin b =>
      cases b with
      | append => exact hv (Builtin.append_ tys o.type (args.map ρ))
      | len => exact hv (Builtin.len_ tys o.type (args.map ρ))
      | _ => cases h
    | _ => cases h
  | _ => rw [ho] at h; cases h

theorem wpOp_and {P : Program} {ops : Array Oper} {Q : Exit → Act → World → Prop} {i : Nat} {o : Oper} (ho : ops[i]? = some o) (hp : plainOp o.op = true) {K1 K2 : Act → World → Prop} {a : Act} {w : World}
    (h1 : wpOp P ops Q i K1 a w) (h2 : wpOp P ops Q i K2 a w) : wpOp P ops Q i (fun a w => K1 a w ∧ K2 a w) a w := by
  unfold wpOp at *
  simp only [ho] at *
  split
  · rename_i hw
    simp only [hw, if_true] at h1 h2
    rcases h1 with h1 | h1
    · rcases h2 with h2 | h2
      · refine .inl ?_
        unfold Oper.wp at *
        rcases plain_run (P := P) hp a.eval w with ⟨v, w', e⟩ | ⟨w', e⟩ | ⟨x, w', e⟩
        · rw [e] at h1 h2 ⊢; exact ⟨h1, h2⟩
        · rw [e] at h1 h2 ⊢; exact ⟨h1, h2⟩
        · rw [e] at h1 ⊢
          cases x <;> first | exact h1 | exact h1.elim
      · exact .inr h2
    · exact .inr h1
  · rename_i hw
    simp only [hw] at h1 h2
    exact ⟨h1, h2⟩

/-- Another listing of the same operations, with one edge more: x comes behind what is listed at c. -/
structure SimOk (ops ops' : Array Oper) (σ : Nat → Nat) (x c : Nat) : Prop where
  size : ops'.size = ops.size
  inv : ∀ i, i < ops.size → σ i < ops.size ∧ σ (σ i) = i
  out : ∀ i, ops.size ≤ i → ops.size ≤ σ i
  op : ∀ (i : Nat) (o : Oper), ops[i]? = some o → ∃ A G, ops'[σ i]? = some { o with after := A, guard := G } ∧
    (∀ tm, Region.wanted { o with after := A, guard := G } (yielded ops' tm) = Region.wanted o (yielded ops tm)) ∧
    (∀ e ∈ A, Region.binds .any e = true → (∃ e0 ∈ o.after, Region.binds .any e0 = true ∧ e.on = σ e0.on) ∨ (e.on = c ∧ i = x)) ∧
    (∀ e0 ∈ o.after, Region.binds .any e0 = true → ∃ e ∈ A, Region.binds .any e = true ∧ e.on = σ e0.on)

theorem ready_iff {ops : Array Oper} {listed : Array Bool} {i : Nat} : i ∈ Region.ready .any ops listed ↔ listed.getD i true = false ∧ ∃ o, ops[i]? = some o ∧ ∀ e ∈ o.after, Region.binds .any e = true → listed.getD e.on false = true := by
  unfold Region.ready
  rw [List.mem_filter, List.mem_range]
  constructor
  · rintro ⟨h1, h2⟩
    rw [Bool.and_eq_true] at h2
    obtain ⟨h2, h3⟩ := h2
    obtain ⟨o, ho⟩ : ∃ o, ops[i]? = some o := ⟨_, Array.getElem?_eq_getElem h1⟩
    rw [ho] at h3
    refine ⟨by simpa using h2, o, ho, fun e he hb => ?_⟩
    simp only [Option.map_some, Option.getD_some, Array.all_eq_true_iff_forall_mem] at h3
    have := h3 e he
    rw [hb] at this
    simpa using this
  · rintro ⟨h1, o, ho, h2⟩
    refine ⟨(Array.getElem?_eq_some_iff.1 ho).1, ?_⟩
    rw [ho, h1]
    simp only [Bool.not_false, Bool.true_and, Option.map_some, Option.getD_some, Array.all_eq_true_iff_forall_mem]
    intro e he
    cases hb : Region.binds .any e with
    | false => rfl
    | true => rw [h2 e he hb]; rfl

def RelL (N : Nat) (σ : Nat → Nat) (listed listed' : Array Bool) : Prop := listed.size = N ∧ listed'.size = N ∧ ∀ i, i < N → ∀ d, listed'.getD (σ i) d = listed.getD i d

section
variable {P : Program} {ops ops' : Array Oper} {σ : Nat → Nat} {x c : Nat} {Q : Exit → Act → World → Prop}

theorem getD_lt {l : Array Bool} {i : Nat} {d d' : Bool} (h : i < l.size) : l.getD i d = l.getD i d' := by simp [Array.getD_eq_getD_getElem?, h]

theorem sim_ready (h : SimOk ops ops' σ x c) {listed listed' : Array Bool} (hr : RelL ops.size σ listed listed') {i : Nat} (hi : i ∈ Region.ready .any ops listed) (hc : i = x → listed'.getD c false = true) : σ i ∈ Region.ready .any ops' listed' := by
  rw [ready_iff] at hi ⊢
  obtain ⟨h1, o, ho, h2⟩ := hi
  have hlt := (Array.getElem?_eq_some_iff.1 ho).1
  obtain ⟨A, G, k1, _, k3, _⟩ := h.op i o ho
  refine ⟨by rw [hr.2.2 i hlt]; exact h1, _, k1, fun e he hb => ?_⟩
  rcases k3 e he hb with ⟨e0, m1, m2, m3⟩ | ⟨m1, m2⟩
  · have := h2 e0 m1 m2
    have hl : e0.on < ops.size := by
      rcases Nat.lt_or_ge e0.on ops.size with hl | hl
      · exact hl
      · rw [Array.getD_eq_getD_getElem?, Array.getElem?_eq_none (by rw [hr.1]; exact hl)] at this; cases this
    rw [m3, hr.2.2 _ hl]; exact this
  · rw [m1]; exact hc m2

theorem sim_back (h : SimOk ops ops' σ x c) {listed listed' : Array Bool} (hr : RelL ops.size σ listed listed') {j : Nat} (hj : j ∈ Region.ready .any ops' listed') : σ j ∈ Region.ready .any ops listed := by
  rw [ready_iff] at hj ⊢
  obtain ⟨h1, o', ho', h2⟩ := hj
  have hlt' := (Array.getElem?_eq_some_iff.1 ho').1
  rw [h.size] at hlt'
  obtain ⟨i1, i2⟩ := h.inv j hlt'
  obtain ⟨o, ho⟩ : ∃ o, ops[σ j]? = some o := ⟨_, Array.getElem?_eq_getElem i1⟩
  obtain ⟨A, G, k1, _, _, k4⟩ := h.op (σ j) o ho
  rw [i2, ho'] at k1
  cases k1
  have e1 := hr.2.2 (σ j) i1 true
  rw [i2] at e1
  refine ⟨by rw [← e1]; exact h1, o, ho, fun e0 he hb => ?_⟩
  obtain ⟨e, m1, m2, m3⟩ := k4 e0 he hb
  have := h2 e m1 m2
  rw [m3] at this
  have hl : e0.on < ops.size := by
    rcases Nat.lt_or_ge e0.on ops.size with hl | hl
    · exact hl
    · exfalso
      have hl2 := h.out _ hl
      rw [Array.getD_eq_getD_getElem?, Array.getElem?_eq_none (by rw [hr.2.1]; exact hl2)] at this; cases this
  rw [hr.2.2 _ hl] at this
  exact this

theorem RelL.set (h : SimOk ops ops' σ x c) {listed listed' : Array Bool} (hr : RelL ops.size σ listed listed') {i : Nat} (hi : i < ops.size) : RelL ops.size σ (listed.setIfInBounds i true) (listed'.setIfInBounds (σ i) true) := by
  refine ⟨by rw [Array.size_setIfInBounds]; exact hr.1, by rw [Array.size_setIfInBounds]; exact hr.2.1, fun k hk d => ?_⟩
  have e := hr.2.2 k hk d
  rw [Array.getD_eq_getD_getElem?, Array.getD_eq_getD_getElem?, Array.getElem?_setIfInBounds, Array.getElem?_setIfInBounds, hr.1, hr.2.1]
  rw [Array.getD_eq_getD_getElem?, Array.getD_eq_getD_getElem?] at e
  by_cases hki : i = k
  · subst hki
    rw [if_pos rfl, if_pos rfl, if_pos hi, if_pos (h.inv i hi).1]
  · have hne : ¬ σ i = σ k := fun hh => hki (by rw [← (h.inv i hi).2, hh, (h.inv k hk).2])
    rw [if_neg hki, if_neg hne]; exact e

theorem wpOp_same (h : SimOk ops ops' σ x c) {i : Nat} {K : Act → World → Prop} {a : Act} {w : World} (hi : i < ops.size) (hw : wpOp P ops' Q (σ i) K a w) : wpOp P ops Q i K a w := by
  obtain ⟨o, ho⟩ : ∃ o, ops[i]? = some o := ⟨_, Array.getElem?_eq_getElem hi⟩
  obtain ⟨A, G, k1, k2, _, _⟩ := h.op i o ho
  unfold wpOp at hw ⊢
  rw [k1] at hw
  rw [ho]
  dsimp only at hw ⊢
  rw [k2 a.tmps] at hw
  exact hw

/-- Once what the edge waits for is listed, the listings are alike. -/
theorem wpAny_sim (h : SimOk ops ops' σ x c) : ∀ (fuel : Nat) (listed listed' : Array Bool) (a : Act) (w : World), RelL ops.size σ listed listed' → listed'.getD c false = true → wpAny P .any ops' Q fuel listed' a w → wpAny P .any ops Q fuel listed a w
  | 0, listed, listed', a, w, hr, hc, hw => by
    refine ⟨?_, hw.2⟩
    apply List.eq_nil_iff_forall_not_mem.2
    intro i hi
    have := sim_ready h hr hi (fun _ => hc)
    rw [hw.1] at this
    cases this
  | fuel + 1, listed, listed', a, w, hr, hc, hw => by
    refine ⟨fun he => hw.1 ?_, fun i hi => ?_⟩
    · apply List.eq_nil_iff_forall_not_mem.2
      intro j hj
      have := sim_back h hr hj
      rw [he] at this
      cases this
    · have hlt : i < ops.size := by
        obtain ⟨_, o, ho, _⟩ := ready_iff.1 hi
        exact (Array.getElem?_eq_some_iff.1 ho).1
      refine wpOp_same h hlt (wpOp_mono (fun a' w' hk => ?_) (hw.2 (σ i) (sim_ready h hr hi fun _ => hc)))
      refine wpAny_sim h fuel _ _ a' w' (hr.set h hlt) ?_ hk
      rw [Array.getD_eq_getD_getElem?, Array.getElem?_setIfInBounds]
      split
      · split <;> first | rfl | (rename_i h1 h2; exfalso; apply h2; rw [hr.2.1]; exact (h.inv i hlt).1)
      · rw [Array.getD_eq_getD_getElem?] at hc; exact hc
end

/-- Two operations without an order: whoever shows both orders shows all. -/
theorem wpAny_two {P : Program} {ops opsA opsB : Array Oper} {σA σB : Nat → Nat} {x y : Nat} {Q : Exit → Act → World → Prop} (hA : SimOk ops opsA σA y (σA x)) (hB : SimOk ops opsB σB x (σB y)) (hxy : x ≠ y) (hx : x < ops.size) (hy : y < ops.size)
    (hp : ∀ (i : Nat) (o : Oper), ops[i]? = some o → i ≠ x → i ≠ y → plainOp o.op = true) : ∀ (fuel : Nat) (listed lA lB : Array Bool) (a : Act) (w : World), RelL ops.size σA listed lA → RelL ops.size σB listed lB →
    wpAny P .any opsA Q fuel lA a w → wpAny P .any opsB Q fuel lB a w → wpAny P .any ops Q fuel listed a w
  | 0, listed, lA, lB, a, w, rA, rB, wA, wB => by
    refine ⟨?_, wA.2⟩
    apply List.eq_nil_iff_forall_not_mem.2
    intro i hi
    by_cases hiy : i = y
    · have := sim_ready hB rB hi (fun e => absurd (e.symm.trans hiy) hxy)
      rw [wB.1] at this
      cases this
    · have := sim_ready hA rA hi (fun e => absurd e hiy)
      rw [wA.1] at this
      cases this
  | fuel + 1, listed, lA, lB, a, w, rA, rB, wA, wB => by
    refine ⟨fun he => wA.1 ?_, fun i hi => ?_⟩
    · apply List.eq_nil_iff_forall_not_mem.2
      intro j hj
      have := sim_back hA rA hj
      rw [he] at this
      cases this
    · obtain ⟨_, o, ho, _⟩ := ready_iff.1 hi
      have hlt : i < ops.size := (Array.getElem?_eq_some_iff.1 ho).1
      have lit : ∀ {N : Nat} {l : Array Bool} {k : Nat}, l.size = N → k < N → (l.setIfInBounds k true).getD k false = true := by
        intro N l k hl hk
        rw [Array.getD_eq_getD_getElem?, Array.getElem?_setIfInBounds, if_pos rfl, hl, if_pos hk]; rfl
      by_cases hix : i = x
      · subst hix
        refine wpOp_same hA hlt (wpOp_mono (fun a' w' hk => ?_) (wA.2 _ (sim_ready hA rA hi fun e => absurd e hxy)))
        exact wpAny_sim hA fuel _ _ a' w' (rA.set hA hlt) (lit rA.2.1 (hA.inv _ hlt).1) hk
      · by_cases hiy : i = y
        · subst hiy
          refine wpOp_same hB hlt (wpOp_mono (fun a' w' hk => ?_) (wB.2 _ (sim_ready hB rB hi fun e => absurd e.symm hxy)))
          exact wpAny_sim hB fuel _ _ a' w' (rB.set hB hlt) (lit rB.2.1 (hB.inv _ hlt).1) hk
        · have h1 := wpOp_same hA hlt (wA.2 _ (sim_ready hA rA hi fun e => absurd e hiy))
          have h2 := wpOp_same hB hlt (wB.2 _ (sim_ready hB rB hi fun e => absurd e hix))
          refine wpOp_mono (fun a' w' hk => ?_) (wpOp_and ho (hp i o ho hix hiy) h1 h2)
          exact wpAny_two hA hB hxy hx hy hp fuel _ _ _ a' w' (rA.set hA hlt) (rB.set hB hlt) hk.1 hk.2

/-- The same operations listed otherwise. -/
theorem wpAny_sim0 {P : Program} {ops ops' : Array Oper} {σ : Nat → Nat} {x c : Nat} {Q : Exit → Act → World → Prop} (h : SimOk ops ops' σ x c) (hx : ops.size ≤ x) : ∀ (fuel : Nat) (listed listed' : Array Bool) (a : Act) (w : World), RelL ops.size σ listed listed' → wpAny P .any ops' Q fuel listed' a w → wpAny P .any ops Q fuel listed a w
  | 0, listed, listed', a, w, hr, hw => by
    refine ⟨?_, hw.2⟩
    apply List.eq_nil_iff_forall_not_mem.2
    intro i hi
    have hlt : i < ops.size := by
      obtain ⟨_, o, ho, _⟩ := ready_iff.1 hi
      exact (Array.getElem?_eq_some_iff.1 ho).1
    have := sim_ready h hr hi (fun e => by omega)
    rw [hw.1] at this
    cases this
  | fuel + 1, listed, listed', a, w, hr, hw => by
    refine ⟨fun he => hw.1 ?_, fun i hi => ?_⟩
    · apply List.eq_nil_iff_forall_not_mem.2
      intro j hj
      have := sim_back h hr hj
      rw [he] at this
      cases this
    · have hlt : i < ops.size := by
        obtain ⟨_, o, ho, _⟩ := ready_iff.1 hi
        exact (Array.getElem?_eq_some_iff.1 ho).1
      refine wpOp_same h hlt (wpOp_mono (fun a' w' hk => ?_) (hw.2 (σ i) (sim_ready h hr hi fun e => by omega)))
      exact wpAny_sim0 h hx fuel _ _ a' w' (hr.set h hlt) hk

theorem wpOpsT_imp {P : Program} {ops : Array Oper} {n : Nat} {K K' : (Nat → T) → Store → Prop} (hk : ∀ fr S, K fr S → K' fr S) : ∀ (os : List Oper) (pu : Dr) (fr : Nat → T) (S : Store), wpOpsT P ops n pu os K fr S → wpOpsT P ops n pu os K' fr S
  | [], _, fr, S, h => hk fr S h
  | _ :: os, _, _, _, h => by
    obtain ⟨t, S', pu', h1, h2, h3⟩ := h
    exact ⟨t, S', pu', h1, h2, wpOpsT_imp hk os pu' _ S' h3⟩

theorem draw_start {P : Program} {n : Nat} {ops : Array Oper} {Q : Ex → (Nat → T) → Store → Prop} {fr : Nat → T} {S : Store} {E E0 : Env} {w0 : World} {a : Act} (hok : drawOk ops = true) (hw : wpOpsT P ops n (.any 0 [] []) ops.toList (Q .normal) fr S)
    (hS : E.S = S) (hev : Evo E0 E) (hI : Inv E w0) (hF : FR E n fr a) : wpAny P .any ops (Post E0 w0 n a.defers Q) ops.size (Array.replicate ops.size false) a { E.w with drawn := E.w.drawn + 1 } := by
  obtain ⟨vals, st, ch, h1, h2, h3, h4, h5, h6, _, h8, _, h10, _⟩ := walk_tells ops.toList _ fr S 0 [] [] rfl hw
  simp only [Nat.zero_add] at h6 h8 h10
  have hstart : ∀ i, (Array.replicate ops.size false).getD i false = false := by
    intro i
    rw [Array.getD_eq_getD_getElem?, Array.getElem?_replicate]
    split <;> rfl
  have hstc : ∀ i, i < ops.size → ch i = false → st (i + 1) = st i := fun k hk hc => h5 k ops[k] (by rw [Array.getElem?_toList]; exact Array.getElem?_eq_getElem hk) hc
  refine draw_any (DrawOk.of hok) h1 h4 h5 h6 h8 h10 h3 ops.size (Array.replicate ops.size false) { E with w := E.w.drew } a (by simp) ?_ (fun i o _ hl => ?_) ?_ (hev.trans (drew_evo E)) (drew_inv hI) ?_ rfl
  · exact Nat.le_trans (List.length_filter_le _ _) (by simp)
  · rw [hstart] at hl; cases hl
  · obtain ⟨p, k1, k2, k3, k4⟩ := st_next ch ops.size 0
    refine ⟨p, by omega, ?_, fun j hj hc => ?_, fun hp => ⟨k4 (by omega), hstart p⟩⟩
    · have := st_const hstc p 0 (by omega) (fun j _ h => k3 j (by omega) (by omega))
      rw [Nat.zero_add] at this
      rw [this, h2]
      exact hS
    · rw [k3 j (by omega) hj] at hc; cases hc
  · have hfr : frD ops vals fr (Array.replicate ops.size false) = fr := by
      funext t
      exact frD_out fun k _ => hstart k
    rw [hfr]
    exact hF.evo (drew_evo E)

/-! ### The two listings -/
def tr (a i : Nat) : Nat := if i = a then a + 1 else if i = a + 1 then a else i
theorem tr_tr (a i : Nat) : tr a (tr a i) = i := by unfold tr; (repeat' split) <;> omega
def edgeC (a : Nat) : Edge := ⟨a, .chain⟩
/-- The second comes behind the first. -/
def addA (l : List Oper) (a : Nat) : List Oper := (List.range l.length).map fun i => match l[i]? with
  | some o => if i = a + 1 then { o with after := o.after.push (edgeC a) } else o
  | none => default
/-- The first comes behind the second; the two have changed their places. -/
def trO (a : Nat) (m : Bool) (o : Oper) : Oper :=
  let A := o.after.map fun e => { e with on := tr a e.on }
  { o with after := if m = true then A.push (edgeC a) else A, guard := o.guard.map fun g => (tr a g.1, g.2) }
def swapB (l : List Oper) (a : Nat) : List Oper := (List.range l.length).map fun i => match l[tr a i]? with
  | some o => trO a (decide (i = a + 1)) o
  | none => default

theorem simA {l : List Oper} {a : Nat} : SimOk l.toArray (addA l a).toArray id (a + 1) a := by
  refine ⟨by simp [addA], fun i hi => ⟨hi, rfl⟩, fun i hi => hi, fun i o ho => ?_⟩
  rw [List.getElem?_toArray] at ho
  have hi : i < l.length := (List.getElem?_eq_some_iff.1 ho).1
  have e : (addA l a).toArray[i]? = some (if i = a + 1 then { o with after := o.after.push (edgeC a) } else o) := by
    rw [List.getElem?_toArray, addA, List.getElem?_map, List.getElem?_range hi, Option.map_some, ho]
  have hy : ∀ tm, yielded (addA l a).toArray tm = yielded l.toArray tm := by
    intro tm
    funext j
    unfold yielded
    rcases Nat.lt_or_ge j l.length with hj | hj
    · have e1 : (addA l a).toArray[j]? = some (if j = a + 1 then { l[j] with after := l[j].after.push (edgeC a) } else l[j]) := by
        rw [List.getElem?_toArray, addA, List.getElem?_map, List.getElem?_range hj, Option.map_some, List.getElem?_eq_getElem hj]
      rw [e1, List.getElem?_toArray, List.getElem?_eq_getElem hj]
      by_cases hj1 : j = a + 1
      · rw [if_pos hj1]; rfl
      · rw [if_neg hj1]
    · rw [List.getElem?_toArray, List.getElem?_toArray, List.getElem?_eq_none (by simpa [addA] using hj), List.getElem?_eq_none hj]
  refine ⟨if i = a + 1 then o.after.push (edgeC a) else o.after, o.guard, ?_, fun tm => ?_, fun k hk hb => ?_, fun e0 he hb => ?_⟩
  · show (addA l a).toArray[i]? = _
    rw [e]; split <;> rfl
  · rw [hy]; rfl
  · split at hk
    · rename_i h1
      rw [Array.mem_push] at hk
      rcases hk with hk | rfl
      · exact .inl ⟨k, hk, hb, rfl⟩
      · exact .inr ⟨rfl, h1⟩
    · exact .inl ⟨k, hk, hb, rfl⟩
  · refine ⟨e0, ?_, hb, rfl⟩
    split
    · exact Array.mem_push_of_mem _ he
    · exact he

theorem simB {l : List Oper} {a : Nat} (ha : a + 1 < l.length) : SimOk l.toArray (swapB l a).toArray (tr a) a a := by
  have hlt : ∀ i, i < l.length → tr a i < l.length := fun i hi => by unfold tr; (repeat' split) <;> omega
  have at_ : ∀ i (o : Oper), l[i]? = some o → (swapB l a).toArray[tr a i]? = some (trO a (decide (tr a i = a + 1)) o) := by
    intro i o ho
    have hi : i < l.length := (List.getElem?_eq_some_iff.1 ho).1
    rw [List.getElem?_toArray, swapB, List.getElem?_map, List.getElem?_range (hlt i hi), Option.map_some, tr_tr, ho]
  refine ⟨by simp [swapB], fun i hi => ⟨by simpa using hlt i (by simpa using hi), tr_tr a i⟩, fun i hi => by simp only [List.size_toArray] at hi ⊢; unfold tr; (repeat' split) <;> omega, fun i o ho => ?_⟩
  rw [List.getElem?_toArray] at ho
  have hi : i < l.length := (List.getElem?_eq_some_iff.1 ho).1
  have hy : ∀ tm j, yielded (swapB l a).toArray tm (tr a j) = yielded l.toArray tm j := by
    intro tm j
    unfold yielded
    rcases Nat.lt_or_ge j l.length with hj | hj
    · rw [at_ j l[j] (List.getElem?_eq_getElem hj), List.getElem?_toArray, List.getElem?_eq_getElem hj]
      rfl
    · have : tr a j = j := by unfold tr; (repeat' split) <;> omega
      rw [this, List.getElem?_toArray, List.getElem?_toArray, List.getElem?_eq_none (by simpa [swapB] using hj), List.getElem?_eq_none hj]
  have hd : tr a i = a + 1 ↔ i = a := by unfold tr; (repeat' split) <;> omega
  refine ⟨(trO a (decide (tr a i = a + 1)) o).after, (trO a (decide (tr a i = a + 1)) o).guard, at_ i o ho, fun tm => ?_, fun k hk hb => ?_, fun e0 he hb => ?_⟩
  · unfold Region.wanted trO
    dsimp only
    cases hg : o.guard with
    | none => rfl
    | some g =>
      obtain ⟨j, w⟩ := g
      show (yielded (swapB l a).toArray tm (tr a j) == some w) = _
      rw [hy]
  · have key : k ∈ o.after.map (fun e => ({ e with on := tr a e.on } : Edge)) → ∃ e0 ∈ o.after, Region.binds .any e0 = true ∧ k.on = tr a e0.on := by
      intro hm
      obtain ⟨e0, he0, rfl⟩ := Array.mem_map.1 hm
      exact ⟨e0, he0, hb, rfl⟩
    unfold trO at hk
    dsimp only at hk
    split at hk
    · rename_i h1
      rw [Array.mem_push] at hk
      rcases hk with hk | rfl
      · exact .inl (key hk)
      · exact .inr ⟨rfl, hd.1 (of_decide_eq_true h1)⟩
    · exact .inl (key hk)
  · refine ⟨{ e0 with on := tr a e0.on }, ?_, hb, rfl⟩
    have hm : ({ e0 with on := tr a e0.on } : Edge) ∈ o.after.map (fun e => ({ e with on := tr a e.on } : Edge)) := Array.mem_map.2 ⟨e0, he, rfl⟩
    unfold trO
    dsimp only
    split
    · exact Array.mem_push_of_mem _ hm
    · exact hm

/-- A region whose order is drawn, two of its operations without an order: both listings come to the same. -/
theorem W.draw2 {P : Program} {M n id : Nat} {l lA lB : List Oper} {Q : Ex → (Nat → T) → Store → Prop} {fr : Nat → T} {S : Store} (a : Nat) (fr2 : Nat → T) (S2 : Store) (hm : P.follows .mixedOrders = true) (ha : a + 1 < l.length) (hlA : addA l a = lA) (hlB : swapB l a = lB)
    (hp : ∀ (i : Nat) (o : Oper), l.toArray[i]? = some o → plainOp o.op = true) (okA : drawOk lA.toArray = true) (okB : drawOk lB.toArray = true)
    (hA : wpOpsT P lA.toArray n (.any 0 [] []) lA (fun fr' S' => ∃ keep fz, Gc M S' fr' S2 fr2 keep fz) fr S) (hB : wpOpsT P lB.toArray n (.any 0 [] []) lB (fun fr' S' => ∃ keep fz, Gc M S' fr' S2 fr2 keep fz) fr S)
    (hQ : Q .normal fr2 S2) : W P M n (.region id l.toArray true) Q fr S := by
  subst hlA
  subst hlB
  have post : ∀ E0 : Env, E0.S.length = M → ∀ w0 d e a' w', Post E0 w0 n d (fun ex fr' S' => ex = .normal ∧ ∃ keep fz, Gc M S' fr' S2 fr2 keep fz) e a' w' → Post E0 w0 n d Q e a' w' := by
    rintro E0 hM w0 d e a' w' ⟨ex, fr', E', he, ⟨rfl, keep, fz, hg⟩, rfl, hI, hev, hF, hd⟩
    obtain ⟨E2, h1, h2, h3, h4, h5, _⟩ := hg.frees hI hM hev hF
    exact ⟨.normal, fr2, E2, he, by rw [h2]; exact hQ, h1, h3, h4, h5, hd⟩
  intro E act E0 w0 hM hS hev hI hF
  refine wp_mono ?_ (post E0 hM w0 act.defers)
  refine wp_region_any hm ?_
  have any : ∀ (l' : List Oper), drawOk l'.toArray = true → wpOpsT P l'.toArray n (.any 0 [] []) l' (fun fr' S' => ∃ keep fz, Gc M S' fr' S2 fr2 keep fz) fr S →
      wpAny P .any l'.toArray (Post E0 w0 n act.defers (fun ex fr' S' => ex = .normal ∧ ∃ keep fz, Gc M S' fr' S2 fr2 keep fz)) l'.toArray.size (Array.replicate l'.toArray.size false) act { E.w with drawn := E.w.drawn + 1 } := by
    intro l' hok hw
    have hw' : wpOpsT P l'.toArray n (.any 0 [] []) l' (fun fr' S' => (Ex.normal = Ex.normal) ∧ ∃ keep fz, Gc M S' fr' S2 fr2 keep fz) fr S := wpOpsT_imp (fun fr' S' h => ⟨rfl, h⟩) _ _ _ _ hw
    exact draw_start (Q := fun ex fr' S' => ex = .normal ∧ ∃ keep fz, Gc M S' fr' S2 fr2 keep fz) hok hw' hS hev hI hF
  have hAs := any _ okA hA
  have hBs := any _ okB hB
  have sA : (addA l a).toArray.size = l.toArray.size := (simA (l := l) (a := a)).size
  have sB : (swapB l a).toArray.size = l.toArray.size := (simB (l := l) ha).size
  rw [sA] at hAs
  rw [sB] at hBs
  have rel : ∀ σ : Nat → Nat, (∀ i, i < l.toArray.size → σ i < l.toArray.size) → RelL l.toArray.size σ (Array.replicate l.toArray.size false) (Array.replicate l.toArray.size false) := by
    intro σ hσ
    refine ⟨by simp, by simp, fun i hi d => ?_⟩
    rw [Array.getD_eq_getD_getElem?, Array.getD_eq_getD_getElem?, Array.getElem?_replicate, Array.getElem?_replicate, if_pos hi, if_pos (hσ i hi)]
  have hB' : SimOk l.toArray (swapB l a).toArray (tr a) a (tr a (a + 1)) := by
    have : tr a (a + 1) = a := by unfold tr; (repeat' split) <;> omega
    rw [this]; exact simB ha
  exact wpAny_two (x := a) (y := a + 1) (simA (l := l) (a := a)) hB' (by omega) (by simp; omega) (by simpa using ha) (fun i o h _ _ => hp i o h) _ _ _ _ _ _ (rel _root_.id fun i hi => hi) (rel (tr a) fun i hi => ((simB (l := l) ha).inv i hi).1) hAs hBs

end Go.TL
