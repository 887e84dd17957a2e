/- Drawn regions with calls in them: what is ready alone goes first, the rest is a region of its own. No conditions. -/
import Derived.Test.YtkecbkljfpebhaaTAny
namespace Go.TL
set_option linter.unusedSimpArgs false
open Go.RowKit

def tailO (o : Oper) : Oper := { o with after := ((o.after.toList.filter fun e => e.on != 0).map fun e => { e with on := e.on - 1 }).toArray }
/-- What is left of a region when its first operation is done. -/
def tailL (l : List Oper) : List Oper := l.tail.map tailO

def RelT (N : Nat) (listed listed' : Array Bool) : Prop := listed.size = N + 1 ∧ listed'.size = N ∧ listed.getD 0 false = true ∧ ∀ i, i < N → ∀ d, listed'.getD i d = listed.getD (i + 1) d

section
variable {P : Program} {o0 : Oper} {rest : List Oper} {Q : Exit → Act → World → Prop}
theorem tail_at {i : Nat} {o : Oper} (h : (o0 :: rest)[i + 1]? = some o) : (tailL (o0 :: rest)).toArray[i]? = some (tailO o) := by
  rw [List.getElem?_toArray, tailL, List.tail_cons, List.getElem?_map]
  rw [List.getElem?_cons_succ] at h
  rw [h]; rfl
theorem tail_ready {listed listed' : Array Bool} (hr : RelT rest.length listed listed') {i : Nat} : i ∈ Region.ready .any (o0 :: rest).toArray listed ↔ ∃ j, i = j + 1 ∧ j ∈ Region.ready .any (tailL (o0 :: rest)).toArray listed' := by
  rw [ready_iff]
  constructor
  · rintro ⟨h1, o, ho, h2⟩
    cases i with
    | zero =>
      have := hr.2.2.1
      rw [Array.getD_eq_getD_getElem?] at this h1
      have hs : 0 < listed.size := by rw [hr.1]; omega
      rw [Array.getElem?_eq_getElem hs] at this h1
      exact absurd (this.symm.trans h1) (by decide)
    | succ j =>
      refine ⟨j, rfl, ready_iff.2 ?_⟩
      rw [List.getElem?_toArray] at ho
      have hj : j < rest.length := by
        have := (List.getElem?_eq_some_iff.1 ho).1
        simpa using this
      refine ⟨by rw [hr.2.2.2 j hj]; exact h1, _, tail_at ho, fun e he hb => ?_⟩
      obtain ⟨e0, he0, rfl⟩ := List.mem_map.1 (List.mem_toArray.1 he)
      obtain ⟨hm, hne⟩ := List.mem_filter.1 he0
      have hm := Array.mem_toList_iff.1 hm
      have hx := h2 e0 hm hb
      have hne : e0.on ≠ 0 := by simpa using hne
      have hlt : e0.on < listed.size := by
        rcases Nat.lt_or_ge e0.on listed.size with hl | hl
        · exact hl
        · rw [Array.getD_eq_getD_getElem?, Array.getElem?_eq_none hl] at hx; cases hx
      show listed'.getD (e0.on - 1) false = true
      rw [hr.2.2.2 (e0.on - 1) (by rw [hr.1] at hlt; omega), show e0.on - 1 + 1 = e0.on by omega]
      exact hx
  · rintro ⟨j, rfl, h⟩
    obtain ⟨h1, o', ho', h2⟩ := ready_iff.1 h
    have hj : j < rest.length := by
      have := (Array.getElem?_eq_some_iff.1 ho').1
      simpa [tailL] using this
    have ho : (o0 :: rest)[j + 1]? = some rest[j] := by rw [List.getElem?_cons_succ, List.getElem?_eq_getElem hj]
    rw [tail_at ho] at ho'
    cases ho'
    refine ⟨by rw [← hr.2.2.2 j hj]; exact h1, rest[j], by rw [List.getElem?_toArray]; exact ho, fun e he hb => ?_⟩
    by_cases h0 : e.on = 0
    · rw [h0]; exact hr.2.2.1
    · have := h2 { e with on := e.on - 1 } (List.mem_toArray.2 (List.mem_map.2 ⟨e, List.mem_filter.2 ⟨Array.mem_toList_iff.2 he, by simpa using h0⟩, rfl⟩)) hb
      dsimp only at this
      have hlt : e.on - 1 < rest.length := by
        rcases Nat.lt_or_ge (e.on - 1) listed'.size with hl | hl
        · rw [hr.2.1] at hl; exact hl
        · rw [Array.getD_eq_getD_getElem?, Array.getElem?_eq_none hl] at this; cases this
      rw [hr.2.2.2 _ hlt, show e.on - 1 + 1 = e.on by omega] at this
      exact this
theorem RelT.set {listed listed' : Array Bool} (hr : RelT rest.length listed listed') {j : Nat} (hj : j < rest.length) : RelT rest.length (listed.setIfInBounds (j + 1) true) (listed'.setIfInBounds j true) := by
  refine ⟨by rw [Array.size_setIfInBounds]; exact hr.1, by rw [Array.size_setIfInBounds]; exact hr.2.1, ?_, fun i hi d => ?_⟩
  · have := hr.2.2.1
    rw [Array.getD_eq_getD_getElem?] at this ⊢
    rw [Array.getElem?_setIfInBounds, if_neg (by omega)]; exact this
  · have e := hr.2.2.2 i hi d
    rw [Array.getD_eq_getD_getElem?, Array.getD_eq_getD_getElem?] at e ⊢
    rw [Array.getElem?_setIfInBounds, Array.getElem?_setIfInBounds, hr.1, hr.2.1]
    by_cases h : j = i
    · subst h
      rw [if_pos rfl, if_pos rfl, if_pos hj, if_pos (by omega)]
    · rw [if_neg h, if_neg (by omega)]; exact e

theorem wpAny_tail (hg : ∀ o ∈ rest, o.guard = none) : ∀ (fuel : Nat) (listed listed' : Array Bool) (a : Act) (w : World), RelT rest.length listed listed' → wpAny P .any (tailL (o0 :: rest)).toArray Q fuel listed' a w → wpAny P .any (o0 :: rest).toArray Q fuel listed a w
  | 0, listed, listed', a, w, hr, hw => by
    refine ⟨?_, hw.2⟩
    apply List.eq_nil_iff_forall_not_mem.2
    intro i hi
    obtain ⟨j, rfl, hj⟩ := (tail_ready hr).1 hi
    rw [hw.1] at hj
    cases hj
  | fuel + 1, listed, listed', a, w, hr, hw => by
    refine ⟨fun he => hw.1 ?_, fun i hi => ?_⟩
    · apply List.eq_nil_iff_forall_not_mem.2
      intro j hj
      have := (tail_ready hr).2 ⟨j, rfl, hj⟩
      rw [he] at this
      cases this
    · obtain ⟨j, rfl, hj⟩ := (tail_ready hr).1 hi
      have hjl : j < rest.length := by
        obtain ⟨_, o, ho, _⟩ := ready_iff.1 hj
        have := (Array.getElem?_eq_some_iff.1 ho).1
        simpa [tailL] using this
      have ho : (o0 :: rest)[j + 1]? = some rest[j] := by rw [List.getElem?_cons_succ, List.getElem?_eq_getElem hjl]
      have hk := hw.2 j hj
      unfold wpOp at hk ⊢
      rw [tail_at ho] at hk
      rw [List.getElem?_toArray, ho]
      have hgn : rest[j].guard = none := hg _ (List.getElem_mem hjl)
      have hw1 : ∀ y, Region.wanted rest[j] y = true := fun y => by unfold Region.wanted; rw [hgn]
      have hw2 : ∀ y, Region.wanted (tailO rest[j]) y = true := fun y => by
        unfold Region.wanted
        rw [show (tailO rest[j]).guard = none from hgn]
      dsimp only at hk ⊢
      rw [hw2, if_pos rfl] at hk
      rw [hw1, if_pos rfl]
      have step := fun a' w' (h : wpAny P .any (tailL (o0 :: rest)).toArray Q fuel (listed'.setIfInBounds j true) a' w') => wpAny_tail hg fuel _ _ a' w' (hr.set hjl) h
      have hk2 : wpOp P (tailL (o0 :: rest)).toArray Q j (wpAny P .any (o0 :: rest).toArray Q fuel (listed.setIfInBounds (j + 1) true)) a w := wpOp_mono step (hw.2 j hj)
      unfold wpOp at hk2
      rw [tail_at ho] at hk2
      dsimp only at hk2
      rw [hw2, if_pos rfl] at hk2
      exact hk2
end

/-- All orders of a region come to the same; the draw has been told. -/
def AnyT (P : Program) (M n : Nat) (l : List Oper) (Q : Ex → (Nat → T) → Store → Prop) (fr : Nat → T) (S : Store) : Prop :=
  ∀ (E E0 : Env) (w0 : World) (act : Act), E0.S.length = M → E.S = S → Evo E0 E → Inv E w0 → FR E n fr act →
    wpAny P .any l.toArray (Post E0 w0 n act.defers Q) l.toArray.size (Array.replicate l.toArray.size false) act E.w

section
variable {P : Program} {M n : Nat} {l : List Oper} {Q : Ex → (Nat → T) → Store → Prop} {fr : Nat → T} {S : Store}
theorem AnyOk.of (h : AnyT P M n l Q fr S) : AnyOk P M n l Q fr S := fun E E0 w0 act hM hS hev hI hF =>
  h { E with w := E.w.drew } E0 w0 act hM hS (hev.trans (drew_evo E)) (drew_inv hI) (hF.evo (drew_evo E))

/-- What is ready alone goes first. -/
theorem any_head' {o : Oper} {rest : List Oper} {t : T} {S' : Store} (h : opT P (o :: rest).toArray n fr S o t S') (hT : AnyT P M n (tailL (o :: rest)) Q (put fr o.dst t) S')
    (hr : (rest.all fun o => o.guard.isNone && o.after.any fun e => Region.binds .any e) = true) (hr0 : (o.after.all fun e => !Region.binds .any e) = true) : AnyT P M n (o :: rest) Q fr S := by
  intro E E0 w0 act hM hS hev hI hF
  have hr' : ∀ x ∈ rest, x.guard = none ∧ ∃ e ∈ x.after, Region.binds .any e = true := by
    intro x hx
    have := List.all_eq_true.1 hr x hx
    rw [Bool.and_eq_true] at this
    refine ⟨by simpa using this.1, ?_⟩
    obtain ⟨i, hi, he⟩ := Array.any_eq_true.1 this.2
    exact ⟨_, Array.getElem_mem hi, he⟩
  have hlen : (o :: rest).toArray.size = rest.length + 1 := by simp
  rw [hlen]
  have hz : ∀ i d, i < rest.length + 1 → (Array.replicate (rest.length + 1) false).getD i d = false := by
    intro i d hi
    rw [Array.getD_eq_getD_getElem?, Array.getElem?_replicate, if_pos hi]; rfl
  have h0 : ∀ i ∈ Region.ready .any (o :: rest).toArray (Array.replicate (rest.length + 1) false), i = 0 := by
    intro i hi
    obtain ⟨h1, x, hx, h2⟩ := ready_iff.1 hi
    cases i with
    | zero => rfl
    | succ j =>
      rw [List.getElem?_toArray, List.getElem?_cons_succ] at hx
      obtain ⟨_, e, he, hb⟩ := hr' x (List.mem_of_getElem? hx)
      have := h2 e he hb
      rw [Array.getD_eq_getD_getElem?, Array.getElem?_replicate] at this
      split at this <;> cases this
  have hg : ∀ x ∈ rest, x.guard = none := fun x hx => (hr' x hx).1
  refine ⟨fun he => ?_, fun i hi => ?_⟩
  · have hm : 0 ∈ Region.ready .any (o :: rest).toArray (Array.replicate (rest.length + 1) false) := by
      refine ready_iff.2 ⟨hz 0 true (by omega), o, by rw [List.getElem?_toArray]; rfl, fun e he hb => ?_⟩
      have := (Array.all_eq_true_iff_forall_mem.1 hr0) e he
      rw [hb] at this; cases this
    rw [he] at hm; cases hm
  · obtain rfl := h0 i hi
    have ho : (o :: rest).toArray[0]? = some o := by rw [List.getElem?_toArray]; rfl
    refine opT_sound ho hI hF (by rw [hS]; exact h) fun E' v hS' hI' hE hv hd => ?_
    have hk := hT E' E0 w0 (act.put o.dst v) hM hS' (hev.trans hE) hI' ((hF.evo hE).put hd hv)
    rw [Act.put_defers] at hk
    have hsz : (tailL (o :: rest)).toArray.size = rest.length := by simp [tailL]
    rw [hsz] at hk
    refine wpAny_tail hg _ _ _ _ _ ⟨by simp, by simp, ?_, fun i hi d => ?_⟩ hk
    · rw [Array.getD_eq_getD_getElem?, Array.getElem?_setIfInBounds, if_pos rfl]; simp
    · rw [Array.getD_eq_getD_getElem?, Array.getD_eq_getD_getElem?, Array.getElem?_setIfInBounds, if_neg (by omega), Array.getElem?_replicate, Array.getElem?_replicate, if_pos hi, if_pos (by omega)]

/-- Branches meet: roots and values forgotten, renamed, frozen. -/
theorem any_cut (fr2 : Nat → T) (S2 : Store) {keep : List Nat} {fz : List Gh} (hg : Gc M S fr S2 fr2 keep fz) (hT : AnyT P M n l Q fr2 S2) : AnyT P M n l Q fr S := by
  intro E E0 w0 act hM hS hev hI hF
  subst hS
  obtain ⟨E2, h1, h2, h3, h4, h5, _⟩ := hg.frees hI hM hev hF
  have := hT E2 E0 w0 act hM h2 h4 h3 h5
  rw [h1] at this
  exact this
end

/-- Two operations without an order: whoever shows both orders shows all; what waits for one of the two may be anything. -/
theorem wpAny_twoD {P : Program} {ops opsA opsB : Array Oper} {σA σB : Nat → Nat} {x y : Nat} {Q : Exit → Act → World → Prop} {d : Nat → Bool} (hA : SimOk ops opsA σA y (σA x)) (hB : SimOk ops opsB σB x (σB y)) (hxy : x ≠ y) (hx : x < ops.size) (hy : y < ops.size)
    (hp : ∀ (i : Nat) (o : Oper), ops[i]? = some o → i ≠ x → i ≠ y → (d i = false ∧ plainOp o.op = true) ∨ (∃ e ∈ o.after, Region.binds .any e = true ∧ d e.on = true)) : ∀ (fuel : Nat) (listed lA lB : Array Bool) (a : Act) (w : World), RelL ops.size σA listed lA → RelL ops.size σB listed lB → (∀ i, d i = true → listed.getD i false = false) →
    wpAny P .any opsA Q fuel lA a w → wpAny P .any opsB Q fuel lB a w → wpAny P .any ops Q fuel listed a w
  | 0, listed, lA, lB, a, w, rA, rB, _, wA, wB => by
    refine ⟨?_, wA.2⟩
    apply List.eq_nil_iff_forall_not_mem.2
    intro i hi
    by_cases hiy : i = y
    · have := sim_ready hB rB hi (fun e => absurd (e.symm.trans hiy) hxy)
      rw [wB.1] at this
      cases this
    · have := sim_ready hA rA hi (fun e => absurd e hiy)
      rw [wA.1] at this
      cases this
  | fuel + 1, listed, lA, lB, a, w, rA, rB, hd, wA, wB => by
    refine ⟨fun he => wA.1 ?_, fun i hi => ?_⟩
    · apply List.eq_nil_iff_forall_not_mem.2
      intro j hj
      have := sim_back hA rA hj
      rw [he] at this
      cases this
    · obtain ⟨_, o, ho, haft⟩ := ready_iff.1 hi
      have hlt : i < ops.size := (Array.getElem?_eq_some_iff.1 ho).1
      have lit : ∀ {N : Nat} {l : Array Bool} {k : Nat}, l.size = N → k < N → (l.setIfInBounds k true).getD k false = true := by
        intro N l k hl hk
        rw [Array.getD_eq_getD_getElem?, Array.getElem?_setIfInBounds, if_pos rfl, hl, if_pos hk]; rfl
      by_cases hix : i = x
      · subst hix
        refine wpOp_same hA hlt (wpOp_mono (fun a' w' hk => ?_) (wA.2 _ (sim_ready hA rA hi fun e => absurd e hxy)))
        exact wpAny_sim hA fuel _ _ a' w' (rA.set hA hlt) (lit rA.2.1 (hA.inv _ hlt).1) hk
      · by_cases hiy : i = y
        · subst hiy
          refine wpOp_same hB hlt (wpOp_mono (fun a' w' hk => ?_) (wB.2 _ (sim_ready hB rB hi fun e => absurd e.symm hxy)))
          exact wpAny_sim hB fuel _ _ a' w' (rB.set hB hlt) (lit rB.2.1 (hB.inv _ hlt).1) hk
        · rcases hp i o ho hix hiy with ⟨hdi, hpl⟩ | ⟨e, he, hb, hde⟩
          · have h1 := wpOp_same hA hlt (wA.2 _ (sim_ready hA rA hi fun e => absurd e hiy))
            have h2 := wpOp_same hB hlt (wB.2 _ (sim_ready hB rB hi fun e => absurd e hix))
            refine wpOp_mono (fun a' w' hk => ?_) (wpOp_and ho hpl h1 h2)
            refine wpAny_twoD hA hB hxy hx hy hp fuel _ _ _ a' w' (rA.set hA hlt) (rB.set hB hlt) (fun k hk' => ?_) hk.1 hk.2
            have hki : ¬ i = k := fun e => by rw [e, hk'] at hdi; cases hdi
            have := hd k hk'
            rw [Array.getD_eq_getD_getElem?] at this ⊢
            rw [Array.getElem?_setIfInBounds, if_neg hki]; exact this
          · have := haft e he hb
            rw [hd _ hde] at this; cases this

/-- What waits for one of two neighbours (or is one). -/
def descL (l : List Oper) (a : Nat) : List Bool := l.foldl (fun acc o => acc ++ [acc.length == a || acc.length == a + 1 || o.after.any fun e => Region.binds .any e && acc.getD e.on false]) []
def twoOk (l : List Oper) (a : Nat) : Bool :=
  let d := descL l a
  l.zipIdx.all fun o => o.2 == a || o.2 == a + 1 || (!(d.getD o.2 false) && plainOp o.1.op) || o.1.after.any fun e => Region.binds .any e && d.getD e.on false
section
variable {P : Program} {M n : Nat} {l : List Oper} {Q : Ex → (Nat → T) → Store → Prop} {fr : Nat → T} {S : Store}
theorem any_twoT (a : Nat) (hp : twoOk l a = true) (ha : a + 1 < l.length) (hA : AnyT P M n (addA l a) Q fr S) (hB : AnyT P M n (swapB l a) Q fr S) : AnyT P M n l Q fr S := by
  intro E E0 w0 act hM hS hev hI hF
  have h1 := hA E E0 w0 act hM hS hev hI hF
  have h2 := hB E E0 w0 act hM hS hev hI hF
  rw [(simA (l := l) (a := a)).size] at h1
  rw [(simB (l := l) ha).size] at h2
  have hB' : SimOk l.toArray (swapB l a).toArray (tr a) a (tr a (a + 1)) := by
    have : tr a (a + 1) = a := by unfold tr; (repeat' split) <;> omega
    rw [this]; exact simB ha
  refine wpAny_twoD (x := a) (y := a + 1) (d := fun i => (descL l a).getD i false) (simA (l := l) (a := a)) hB' (by omega) (by simp; omega) (by simpa using ha) (fun i o h h1 h2 => ?_) _ _ _ _ _ _ (rel_any _ _root_.id fun i hi => hi) (rel_any _ (tr a) fun i hi => ((simB (l := l) ha).inv i hi).1) (fun i _ => ?_) h1 h2
  · rw [List.getElem?_toArray] at h
    have hm : (o, i) ∈ l.zipIdx := List.mem_of_getElem? (i := i) (by rw [List.getElem?_zipIdx, h]; simp)
    have := List.all_eq_true.1 hp _ hm
    simp only [Bool.or_eq_true, Bool.and_eq_true, Bool.not_eq_true', beq_iff_eq, h1, h2, false_or] at this
    rcases this with h3 | h3
    · exact .inl h3
    · obtain ⟨k, hk, he⟩ := Array.any_eq_true.1 h3
      rw [Bool.and_eq_true] at he
      exact .inr ⟨_, Array.getElem_mem hk, he⟩
  · rw [Array.getD_eq_getD_getElem?, Array.getElem?_replicate]
    split <;> rfl
theorem any_swapT (a : Nat) (ha : a + 1 < l.length) (hA : AnyT P M n (swap0 l a) Q fr S) : AnyT P M n l Q fr S := by
  intro E E0 w0 act hM hS hev hI hF
  have h1 := hA E E0 w0 act hM hS hev hI hF
  rw [(sim0 (l := l) 0 0 ha).size] at h1
  exact wpAny_sim0 (sim0 (l := l) l.length 0 ha) (by simp) _ _ _ _ _ (rel_any l.toArray.size (tr a) fun i hi => ((sim0 (l := l) 0 0 ha).inv i hi).1) h1
end

theorem draw_startT {P : Program} {n : Nat} {ops : Array Oper} {Q : Ex → (Nat → T) → Store → Prop} {fr : Nat → T} {S : Store} {E E0 : Env} {w0 : World} {a : Act} (hok : drawOk ops = true) (hw : wpOpsT P ops n (.any 0 [] []) ops.toList (Q .normal) fr S)
    (hS : E.S = S) (hev : Evo E0 E) (hI : Inv E w0) (hF : FR E n fr a) : wpAny P .any ops (Post E0 w0 n a.defers Q) ops.size (Array.replicate ops.size false) a E.w := by
  obtain ⟨vals, st, ch, h1, h2, h3, h4, h5, h6, _, h8, _, h10, _⟩ := walk_tells ops.toList _ fr S 0 [] [] rfl hw
  simp only [Nat.zero_add] at h6 h8 h10
  have hstart : ∀ i, (Array.replicate ops.size false).getD i false = false := by
    intro i
    rw [Array.getD_eq_getD_getElem?, Array.getElem?_replicate]
    split <;> rfl
  have hstc : ∀ i, i < ops.size → ch i = false → st (i + 1) = st i := fun k hk hc => h5 k ops[k] (by rw [Array.getElem?_toList]; exact Array.getElem?_eq_getElem hk) hc
  refine draw_any (DrawOk.of hok) h1 h4 h5 h6 h8 h10 h3 ops.size (Array.replicate ops.size false) E a (by simp) ?_ (fun i o _ hl => ?_) ?_ hev hI ?_ rfl
  · exact Nat.le_trans (List.length_filter_le _ _) (by simp)
  · rw [hstart] at hl; cases hl
  · obtain ⟨p, k1, k2, k3, k4⟩ := st_next ch ops.size 0
    refine ⟨p, by omega, ?_, fun j hj hc => ?_, fun hp => ⟨k4 (by omega), hstart p⟩⟩
    · have := st_const hstc p 0 (by omega) (fun j _ h => k3 j (by omega) (by omega))
      rw [Nat.zero_add] at this
      rw [this, h2]
      exact hS
    · rw [k3 j (by omega) hj] at hc; cases hc
  · have hfr : frD ops vals fr (Array.replicate ops.size false) = fr := by
      funext t
      exact frD_out fun k _ => hstart k
    rw [hfr]
    exact hF

section
variable {P : Program} {M n : Nat} {l : List Oper} {Q : Ex → (Nat → T) → Store → Prop} {fr : Nat → T} {S : Store}
theorem t_lin {S2 : Store} {fr2 : Nat → T} (h : wpOpsT P l.toArray n (.any 0 [] []) l (fun fr' S' => ∃ keep fz, Gc M S' fr' S2 fr2 keep fz) fr S) (hok : drawOk l.toArray = true := by decide +kernel) :
    AnyT P M n l (fun ex fr' S' => ex = .normal ∧ ∃ keep fz, Gc M S' fr' S2 fr2 keep fz) fr S := by
  intro E E0 w0 act hM hS hev hI hF
  have hw' : wpOpsT P l.toArray n (.any 0 [] []) l (fun fr' S' => (Ex.normal = Ex.normal) ∧ ∃ keep fz, Gc M S' fr' S2 fr2 keep fz) fr S := wpOpsT_imp (fun fr' S' h => ⟨rfl, h⟩) _ _ _ _ h
  exact draw_startT (Q := fun ex fr' S' => ex = .normal ∧ ∃ keep fz, Gc M S' fr' S2 fr2 keep fz) hok hw' hS hev hI hF
theorem t_two {lA lB : List Oper} (a : Nat) (hA : AnyT P M n lA Q fr S) (hB : AnyT P M n lB Q fr S) (hlA : addA l a = lA := by simp only [addA, swapB, trO, tr, edgeC, List.length_cons, List.length_nil, List.range, List.range.loop, Nat.reduceAdd, Nat.reduceEqDiff, Nat.reduceSub, List.map_cons, List.map_nil, List.getElem?_cons_zero, List.getElem?_cons_succ, reduceCtorEq, reduceIte, List.push_toArray, List.map_toArray, Option.map_some, Option.map_none, List.append_nil, List.nil_append, List.cons_append, decide_true, decide_false, Bool.false_eq_true, Nat.zero_add, Nat.reduceBEq, Nat.zero_ne_add_one, Nat.add_one_ne_zero, Nat.add_right_cancel_iff, Nat.succ_ne_self, Nat.left_eq_add, Nat.add_eq_left]; exact rfl) (hlB : swapB l a = lB := by simp only [addA, swapB, trO, tr, edgeC, List.length_cons, List.length_nil, List.range, List.range.loop, Nat.reduceAdd, Nat.reduceEqDiff, Nat.reduceSub, List.map_cons, List.map_nil, List.getElem?_cons_zero, List.getElem?_cons_succ, reduceCtorEq, reduceIte, List.push_toArray, List.map_toArray, Option.map_some, Option.map_none, List.append_nil, List.nil_append, List.cons_append, decide_true, decide_false, Bool.false_eq_true, Nat.zero_add, Nat.reduceBEq, Nat.zero_ne_add_one, Nat.add_one_ne_zero, Nat.add_right_cancel_iff, Nat.succ_ne_self, Nat.left_eq_add, Nat.add_eq_left]; exact rfl)
    (ha : Nat.blt (a + 1) l.length = true := by rfl) (hp : twoOk l a = true := by decide +kernel) : AnyT P M n l Q fr S := by
  subst hlA
  subst hlB
  exact any_twoT a hp (by simpa [Nat.blt_eq] using ha) hA hB
theorem t_swap {lA : List Oper} (a : Nat) (hA : AnyT P M n lA Q fr S) (hlA : swap0 l a = lA := by simp only [swap0, trO, tr, edgeC, List.length_cons, List.length_nil, List.range, List.range.loop, Nat.reduceAdd, Nat.reduceEqDiff, Nat.reduceSub, List.map_cons, List.map_nil, List.getElem?_cons_zero, List.getElem?_cons_succ, reduceCtorEq, reduceIte, List.push_toArray, List.map_toArray, Option.map_some, Option.map_none, List.append_nil, List.nil_append, List.cons_append, decide_true, decide_false, Bool.false_eq_true, Nat.zero_add, Nat.reduceBEq, Nat.zero_ne_add_one, Nat.add_one_ne_zero, Nat.add_right_cancel_iff, Nat.succ_ne_self, Nat.left_eq_add, Nat.add_eq_left]; exact rfl)
    (ha : Nat.blt (a + 1) l.length = true := by rfl) : AnyT P M n l Q fr S := by
  subst hlA
  exact any_swapT a (by simpa [Nat.blt_eq] using ha) hA
/-- What is ready alone goes first; then the rest. -/
theorem t_head {o : Oper} {rest l' : List Oper} (h : wpOpsT P (o :: rest).toArray n .txt [o] (fun fr' S' => AnyT P M n l' Q fr' S') fr S) (hl : tailL (o :: rest) = l' := by simp only [tailL, tailO, List.tail_cons, List.map_cons, List.map_nil, List.toList_toArray, List.filter_cons, List.filter_nil, Nat.reduceBNe, bne_self_eq_false, Bool.false_eq_true, reduceIte, Nat.reduceSub]; exact rfl)
    (hr : (rest.all fun o => o.guard.isNone && o.after.any fun e => Region.binds .any e) = true := by decide +kernel) (hr0 : (o.after.all fun e => !Region.binds .any e) = true := by decide +kernel) : AnyT P M n (o :: rest) Q fr S := by
  subst hl
  obtain ⟨t, S', _, h1, _, h2⟩ := h
  exact any_head' h1 h2 hr hr0
end

end Go.TL
