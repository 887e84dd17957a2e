/- What code comes to on trees, and that the model's runs come to just that. No conditions. -/
import Derived.Test.YtdnclbghhdflmaaTFz
namespace Go.TL
open Go.RowKit

/-- A call on trees: whatever the world, if the roots say what they say and the arguments are as told, the call returns, the result is as told, the roots behind it are as told. -/
structure CallsT (P : Program) (S : Store) (g : FuncId) (args : List T) (res : T) (S' : Store) : Prop where
  fn : ∃ fn, P.funcs[g]? = some fn ∧ fn.body.isSome = true ∧ (fn.name == "runtime.NumGoroutine") = false
  run : ∀ (E : Env) (w0 : World) (vals : Array Value), E.S = S → Inv E w0 → vals.size = args.length → (∀ i t, args[i]? = some t → TR E t (vals.getD i undef)) →
    Calls P g vals E.w (fun e w' => ∃ v E', e = .returned v ∧ E'.w = w' ∧ E'.S = S' ∧ Inv E' w0 ∧ Evo E E' ∧ TR E' res v)

def calleeT (fr : Nat → T) (o : Oper) : Option (FuncId × List T) :=
  match o.op with
  | .call c => match c.callee with
    | .value f => match ev fr f with
      | .v (.func fn first caps) => match fn with
        | .func g => if first.toList.isEmpty && caps.toList.isEmpty then some (g, c.args.toList.map (ev fr)) else none
        | _ => none
      | .clo g ts => some (g, c.args.toList.map (ev fr) ++ ts)
      | _ => none
    | _ => none
  | _ => none

def wantedT (ops : Array Oper) (fr : Nat → T) (o : Oper) : Option Bool :=
  match o.guard with
  | none => some true
  | some (j, want) => match (ops[j]?).bind (·.dst) with
    | some d => match fr d with
      | .v (.bool b) => some (b == want)
      | .v (.tuple _) => some false
      | _ => none
    | none => some false

/-- What an operation comes to: done, called, or passed over. -/
def opT (P : Program) (ops : Array Oper) (n : Nat) (fr : Nat → T) (S : Store) (o : Oper) (t : T) (S' : Store) : Prop :=
  match wantedT ops fr o with
  | some true => okDst n o.dst = true ∧ (match calleeT fr o with
    | some (g, args) => CallsT P S g args t S'
    | none => stepT P S fr o = some (t, S'))
  | some false => okDst n o.dst = true ∧ t = .v undef ∧ S' = S
  | none => False

/-- Operations whose answer does not hang on the roots. -/
def freeOp (o : Oper) : Bool :=
  match o.op with
  | .move _ | .assign _ | .pick _ _ _ | .binOp _ _ _ _ _ | .unOp _ _ _ | .makeFunc _ _ _ | .field _ _ _ | .index _ _ _ | .extract _ _ => true
  | _ => false

/-- Does operation i come behind j in every order? -/
def bitT (ops : Array Oper) (i j : Nat) : Bool := ((Region.before ops).getD i 0).testBit j

/-- What was listed of a region whose order is drawn: the roots ahead of each operation that changed them; the operations that left them. -/
inductive Dr where
  | txt
  | any (i : Nat) (past : List (Nat × Store)) (pend : List (Nat × (Nat → T) × Oper × T))

def pastOk (P : Program) (ops : Array Oper) (n i : Nat) (fr : Nat → T) (o : Oper) (t : T) : List (Nat × Store) → Prop
  | [] => True
  | x :: l => (bitT ops i x.1 = true ∨ opT P ops n fr x.2 o t x.2) ∧ pastOk P ops n i fr o t l
def behindOk (ops : Array Oper) (i : Nat) : List (Nat × Store) → Prop
  | [] => True
  | x :: l => bitT ops i x.1 = true ∧ behindOk ops i l
def pendOk (P : Program) (ops : Array Oper) (n i : Nat) (S' : Store) : List (Nat × (Nat → T) × Oper × T) → Prop
  | [] => True
  | x :: l => (bitT ops i x.1 = true ∨ opT P ops n x.2.1 S' x.2.2.1 x.2.2.2 S') ∧ pendOk P ops n i S' l

inductive Dr.step (P : Program) (ops : Array Oper) (n : Nat) : Dr → (Nat → T) → Store → Oper → T → Store → Dr → Prop
  | txt {fr : Nat → T} {S : Store} {o : Oper} {t : T} {S' : Store} : Dr.step P ops n .txt fr S o t S' .txt
  | free {i : Nat} {past : List (Nat × Store)} {pend : List (Nat × (Nat → T) × Oper × T)} {fr : Nat → T} {S : Store} {o : Oper} {t : T} (h : freeOp o = true) : Dr.step P ops n (.any i past pend) fr S o t S (.any (i + 1) past pend)
  | skip {i : Nat} {past : List (Nat × Store)} {pend : List (Nat × (Nat → T) × Oper × T)} {fr : Nat → T} {S : Store} {o : Oper} {t : T} (h : wantedT ops fr o = some false) : Dr.step P ops n (.any i past pend) fr S o t S (.any (i + 1) past pend)
  | still {i : Nat} {past : List (Nat × Store)} {pend : List (Nat × (Nat → T) × Oper × T)} {fr : Nat → T} {S : Store} {o : Oper} {t : T} (h : pastOk P ops n i fr o t past) : Dr.step P ops n (.any i past pend) fr S o t S (.any (i + 1) past ((i, fr, o, t) :: pend))
  | chain {i : Nat} {past : List (Nat × Store)} {pend : List (Nat × (Nat → T) × Oper × T)} {fr : Nat → T} {S : Store} {o : Oper} {t : T} {S' : Store} (h : behindOk ops i past) (k : pendOk P ops n i S' pend) : Dr.step P ops n (.any i past pend) fr S o t S' (.any (i + 1) ((i, S) :: past) pend)

def wpOpsT (P : Program) (ops : Array Oper) (n : Nat) : Dr → List Oper → ((Nat → T) → Store → Prop) → (Nat → T) → Store → Prop
  | _, [], K, fr, S => K fr S
  | pu, o :: rest, K, fr, S => ∃ t S' pu', opT P ops n fr S o t S' ∧ Dr.step P ops n pu fr S o t S' pu' ∧ wpOpsT P ops n pu' rest K (put fr o.dst t) S'

inductive Ex where
  | normal
  | exit (id : Nat)
  | ret

def Ex.to : Ex → Exit
  | .normal => .normal
  | .exit i => .exit i
  | .ret => .ret

def Ex.seq (next : (Nat → T) → Store → Prop) (Q : Ex → (Nat → T) → Store → Prop) : Ex → (Nat → T) → Store → Prop
  | .normal => next
  | .exit i => Q (.exit i)
  | .ret => Q .ret

def Ex.block (id : Nat) (Q : Ex → (Nat → T) → Store → Prop) : Ex → (Nat → T) → Store → Prop
  | .normal => Q .normal
  | .exit i => if i = id then Q .normal else Q (.exit i)
  | .ret => Q .ret

/-- What is known behind code. -/
def Post (E : Env) (w0 : World) (n : Nat) (d : List Deferred) (Q : Ex → (Nat → T) → Store → Prop) (e : Exit) (a' : Act) (w' : World) : Prop :=
  ∃ ex fr' E', e = ex.to ∧ Q ex fr' E'.S ∧ E'.w = w' ∧ Inv E' w0 ∧ Evo E E' ∧ FR E' n fr' a' ∧ a'.defers = d

/-- From this frame and these roots code comes to what is said. The first M roots keep their numbers. -/
def W (P : Program) (M n : Nat) (c : Code) (Q : Ex → (Nat → T) → Store → Prop) (fr : Nat → T) (S : Store) : Prop :=
  ∀ (E : Env) (a : Act) (E0 : Env) (w0 : World), E0.S.length = M → E.S = S → Evo E0 E → Inv E w0 → FR E n fr a → c.wp P (Post E0 w0 n a.defers Q) a E.w

/-- An invariant with a number that falls; what is left over may be dropped at each turn. -/
def LoopT (M : Nat) (B : (Ex → (Nat → T) → Store → Prop) → (Nat → T) → Store → Prop) (Q : Ex → (Nat → T) → Store → Prop) (fr : Nat → T) (S : Store) : Prop :=
  ∃ (I : Nat → (Nat → T) → Store → Prop) (k : Nat) (fr0 : Nat → T) (S0 : Store) (keep fz : List Nat), Gc M S fr S0 fr0 keep fz ∧ I k fr0 S0 ∧
    ∀ k fr S, I k fr S → B (Ex.seq (fun fr' S' => ∃ m fr2 S2 keep fz, Gc M S' fr' S2 fr2 keep fz ∧ m < k ∧ I m fr2 S2) Q) fr S

def wpT (P : Program) (M n : Nat) : Code → (Ex → (Nat → T) → Store → Prop) → (Nat → T) → Store → Prop
  | .skip, Q, fr, S => Q .normal fr S
  | .region id ops draw, Q, fr, S => (draw = false ∧ wpOpsT P ops n .txt ops.toList (Q .normal) fr S) ∨ (draw = true ∧ W P M n (.region id ops true) Q fr S)
  | .seq a b, Q, fr, S => wpT P M n a (Ex.seq (wpT P M n b Q) Q) fr S
  | .cond c x y, Q, fr, S => ∃ b, ev fr c = .v (.bool b) ∧ (if b = true then wpT P M n x Q fr S else wpT P M n y Q fr S)
  | .block id c, Q, fr, S => wpT P M n c (Ex.block id Q) fr S
  | .loop c, Q, fr, S => LoopT M (fun Q' => W P M n c Q') Q fr S
  | .exit id, Q, fr, S => Q (.exit id) fr S
  | .ret, Q, fr, S => Q .ret fr S
  | _, _, _, _ => False

theorem Act.put_defers (a : Act) (d : Option Tmp) (v : Value) : (a.put d v).defers = a.defers := by cases d <;> rfl

theorem callee_run {P : Program} {fr : Nat → T} {o : Oper} {g : FuncId} {args : List T} (h : calleeT fr o = some (g, args)) {E : Env} {n : Nat} {a : Act} (hf : FR E n fr a)
    (hfn : ∃ fn, P.funcs[g]? = some fn ∧ fn.body.isSome = true ∧ (fn.name == "runtime.NumGoroutine") = false) (w : World) :
    ∃ vals : Array Value, (execOp a.eval o).run P w = .ok (.enter g vals) w ∧ vals.size = args.length ∧ ∀ i t, args[i]? = some t → TR E t (vals.getD i undef) := by
  obtain ⟨fn, hf1, hf2, hf3⟩ := hfn
  have hcall : ∀ vals, (callFunc g vals).run P w = .ok (.enter g vals) w := by
    intro vals
    have hnn : fn.body ≠ none := by intro hb; rw [hb] at hf2; cases hf2
    have hn3 : fn.name ≠ "runtime.NumGoroutine" := by intro hb; rw [hb] at hf3; simp at hf3
    simp [callFunc, hf1, hn3, hnn]
  have hargs : ∀ (xs : Array Operand) (i : Nat) (t : T), (xs.toList.map (ev fr))[i]? = some t → i < xs.size ∧ TR E t ((xs.map a.eval).getD i undef) := by
    intro xs i t ht
    rw [List.getElem?_map] at ht
    obtain ⟨x, hx, rfl⟩ := Option.map_eq_some_iff.1 ht
    rw [Array.getElem?_toList] at hx
    refine ⟨(Array.getElem?_eq_some_iff.1 hx).1, ?_⟩
    rw [Array.getD_eq_getD_getElem?, Array.getElem?_map, hx]
    exact hf.ev x
  unfold calleeT at h
  split at h
  case h_2 => cases h
  rename_i c ho
  split at h
  case h_2 => cases h
  rename_i f hc
  split at h
  · rename_i fn' first caps hev
    split at h
    case h_2 => cases h
    rename_i g'
    split at h
    case isFalse => cases h
    rename_i hem
    simp only [Bool.and_eq_true] at hem
    cases h
    have e1 : first = #[] := by cases first; simp_all
    have e2 : caps = #[] := by cases caps; simp_all
    subst e1
    subst e2
    have hv := (hf.ev f).toV _ _ (.func (.func g) #[] #[]) (by rw [hev]; rfl)
    refine ⟨c.args.map a.eval, ?_, by simp, fun i t ht => (hargs c.args i t ht).2⟩
    simp only [execOp, ho, resolve, hc, hv, Deferred.ofValue, Sem.run_bind, Sem.run_pure, Result.andThen_ok, invoke]
    simp [hcall]
  · rename_i g' ts hev
    cases h
    have hx := hf.ev f
    rw [hev] at hx
    generalize hval : a.eval f = val at hx
    cases hx with
    | clo hs hh =>
      rename_i vs
      refine ⟨c.args.map a.eval ++ vs, ?_, by simp [hs], fun i t ht => ?_⟩
      · simp only [execOp, ho, resolve, hc, hval, Deferred.ofValue, Sem.run_bind, Sem.run_pure, Result.andThen_ok, invoke]
        simp [hcall]
      · rcases Nat.lt_or_ge i c.args.size with hi | hi
        · rw [List.getElem?_append_left (by simpa using hi)] at ht
          have := (hargs c.args i t ht).2
          rw [Array.getD_eq_getD_getElem?, Array.getElem?_append_left (by simpa using hi), ← Array.getD_eq_getD_getElem?]
          exact this
        · rw [List.getElem?_append_right (by simpa using hi)] at ht
          have := hh _ _ ht
          rw [Array.getD_eq_getD_getElem?, Array.getElem?_append_right (by simpa using hi)]
          simp only [List.length_map, Array.length_toList] at this
          rw [Array.getD_eq_getD_getElem?] at this
          simpa using this
  · cases h

theorem wanted_run {ops : Array Oper} {fr : Nat → T} {o : Oper} {b : Bool} (h : wantedT ops fr o = some b) {E : Env} {n : Nat} {a : Act} (hf : FR E n fr a) : Region.wanted o (yielded ops a.tmps) = b := by
  unfold wantedT at h
  unfold Region.wanted
  split at h
  · rename_i hg; cases h; rw [hg]
  · rename_i j want hg
    rw [hg]
    unfold yielded
    dsimp only
    split at h
    · rename_i d hd
      have htr := hf.tr d
      split at h
      · rename_i b' hb
        cases h
        rw [hb] at htr
        have hv := htr.toV _ _ (.bool b') rfl
        have hlt : a.tmps[d]? = some (.bool b') := by
          rw [Array.getD_eq_getD_getElem?] at hv
          cases ht : a.tmps[d]? with
          | none => rw [ht] at hv; simp [undef] at hv
          | some u => rw [ht] at hv; simp only [Option.getD_some] at hv; rw [hv]
        rw [hd, Option.bind_some, hlt]
        cases b' <;> cases want <;> rfl
      · rename_i x hb
        cases h
        rw [hb] at htr
        have hv := htr.toV _ _ (.tuple x) rfl
        rw [hd, Option.bind_some]
        cases ht : a.tmps[d]? with
        | none => rfl
        | some u =>
          rw [Array.getD_eq_getD_getElem?, ht] at hv
          simp only [Option.getD_some] at hv
          rw [hv]; rfl
      · cases h
    · rename_i hd
      cases h
      rw [hd, Option.bind_none]
      rfl

/-- One operation in any state that fits. -/
theorem opT_sound {P : Program} {ops : Array Oper} {n : Nat} {fr : Nat → T} {o : Oper} {t : T} {S' : Store} {E : Env} {w0 : World} {a : Act} {i : Nat} {Q : Exit → Act → World → Prop} {K : Act → World → Prop}
    (ho : ops[i]? = some o) (h : Inv E w0) (hf : FR E n fr a) (hop : opT P ops n fr E.S o t S')
    (hK : ∀ E' v, E'.S = S' → Inv E' w0 → Evo E E' → TR E' t v → okDst n o.dst = true → K (a.put o.dst v) E'.w) : wpOp P ops Q i K a E.w := by
  unfold opT at hop
  unfold wpOp
  simp only [ho]
  split at hop
  · rename_i hwant
    rw [wanted_run hwant hf, if_pos rfl]
    obtain ⟨hd, hop⟩ := hop
    refine .inl ?_
    split at hop
    · rename_i g args hcal
      obtain ⟨vals, hrun, hs, ht⟩ := callee_run hcal hf hop.fn E.w
      unfold Oper.wp
      rw [hrun, Oper.upon_enter]
      refine (hop.run E w0 vals rfl h hs ht).mono fun e w' hh => ?_
      obtain ⟨v, E', rfl, rfl, hS, hI, hE, hT⟩ := hh
      exact hK E' v hS hI hE hT hd
    · obtain ⟨nx, v, E', hrun, hnx, hS, hI, hE, hT⟩ := step_sound (P := P) h hf hop
      have := hK E' v hS hI hE hT hd
      unfold Oper.wp
      rw [hrun]
      rcases hnx with rfl | ⟨rfl, rfl⟩
      · rw [Oper.upon_value]; exact this
      · rw [Oper.upon_skip]; exact this
  · rename_i hwant
    rw [wanted_run hwant hf]
    obtain ⟨hd, rfl, rfl⟩ := hop
    simp only [Bool.false_eq_true, if_false]
    exact hK E undef rfl h (Evo.refl E) (.v _) hd
  · exact hop.elim

theorem wpOpsT_sound {P : Program} {ops : Array Oper} {n : Nat} {w0 : World} {Q : Ex → (Nat → T) → Store → Prop} : ∀ (os : List Oper) (pu : Dr) (l : List Nat) (fr : Nat → T) (E : Env) (a : Act) (E0 : Env),
    l.length = os.length → (∀ (i : Nat) (o : Oper), os[i]? = some o → ∃ j, l[i]? = some j ∧ ops[j]? = some o) → Evo E0 E → Inv E w0 → FR E n fr a → wpOpsT P ops n pu os (Q .normal) fr E.S →
    wpOps P ops (Post E0 w0 n a.defers Q) l a E.w
  | [], pu, l, fr, E, a, E0, hl, _, hev, h, hf, hw => by
    have : l = [] := List.eq_nil_of_length_eq_zero (by simpa using hl)
    subst this
    exact ⟨.normal, fr, E, rfl, hw, rfl, h, hev, hf, rfl⟩
  | o :: os, pu, [], _, _, _, _, hl, _, _, _, _, _ => by simp at hl
  | o :: os, pu, i :: l, fr, E, a, E0, hl, hi, hev, h, hf, hw => by
    obtain ⟨j, hj, ho⟩ := hi 0 o rfl
    cases hj
    have hl' : l.length = os.length := by simpa using hl
    have hi' : ∀ (k : Nat) (o : Oper), os[k]? = some o → ∃ j, l[k]? = some j ∧ ops[j]? = some o := fun k o hk => by simpa using hi (k + 1) o (by simpa using hk)
    obtain ⟨t, S', pu', hop, _, hw⟩ := hw
    rw [wpOps_cons]
    refine opT_sound ho h hf hop fun E' v hS hI hE hT hd => ?_
    have := wpOpsT_sound os pu' l (put fr o.dst t) E' (a.put o.dst v) E0 hl' hi' (hev.trans hE) hI ((hf.evo hE).put hd hT) (by rw [hS]; exact hw)
    rw [Act.put_defers] at this
    exact this

theorem wp_loop_ix {P : Program} {Q : Exit → Act → World → Prop} {c : Code} (I : Nat → Act → World → Prop) {n : Nat} {a : Act} {w : World} (h₀ : I n a w)
    (round : ∀ n a w, I n a w → c.wp P (Exit.then (fun a' w' => ∃ m, m < n ∧ I m a' w') Q) a w) : (Code.loop c).wp P Q a w := by
  intro b k cs
  have key : ∀ n a w, I n a w → ∃ e a' w', Q e a' w' ∧ Arrives P (lone (b.at a (.code c :: .inLoop c :: k)) cs w) b k cs e a' w' := by
    intro n
    induction n using Nat.strongRecOn with
    | _ n ih =>
      intro a w hI
      obtain ⟨e, a₁, w₁, hq, harr⟩ := round n a w hI b (.inLoop c :: k) cs
      cases e with
      | normal =>
        obtain ⟨m, hlt, hI₁⟩ := hq
        obtain ⟨e₂, a₂, w₂, hq₂, harr₂⟩ := ih m hlt a₁ w₁ hI₁
        exact ⟨e₂, a₂, w₂, hq₂, .of_steps (Steps.trans harr (.one step_inLoop)) harr₂⟩
      | exit id => exact ⟨_, a₁, w₁, hq, .pass (x := .inLoop c) rfl (fun _ _ => .inl (by simp)) harr⟩
      | goto l => exact ⟨_, a₁, w₁, hq, .pass (x := .inLoop c) rfl (fun _ _ => .inl (by simp)) harr⟩
      | ret => exact ⟨_, a₁, w₁, hq, .pass (x := .inLoop c) rfl (fun _ _ => .inl (by simp)) harr⟩
      | panic ch => exact ⟨_, a₁, w₁, hq, .pass (x := .inLoop c) rfl (fun _ _ => .inl (by simp)) harr⟩
      | outgrown => exact ⟨_, a₁, w₁, hq, .pass (x := .inLoop c) rfl (fun _ _ => .inl (by simp)) harr⟩
  obtain ⟨e, a', w', hq, harr⟩ := key n a w h₀
  exact ⟨e, a', w', hq, .of_steps (.one step_loop) harr⟩

theorem W.of_skip {P : Program} {M n : Nat} {Q : Ex → (Nat → T) → Store → Prop} {fr : Nat → T} {S : Store} (h : Q .normal fr S) : W P M n .skip Q fr S :=
  fun E a E0 w0 _ hS hev hI hF => wp_skip ⟨.normal, fr, E, rfl, by rw [hS]; exact h, rfl, hI, hev, hF, rfl⟩

theorem W.exit {P : Program} {M n id : Nat} {Q : Ex → (Nat → T) → Store → Prop} {fr : Nat → T} {S : Store} (h : Q (.exit id) fr S) : W P M n (.exit id) Q fr S :=
  fun E a E0 w0 _ hS hev hI hF => wp_exit ⟨.exit id, fr, E, rfl, by rw [hS]; exact h, rfl, hI, hev, hF, rfl⟩

theorem W.ret {P : Program} {M n : Nat} {Q : Ex → (Nat → T) → Store → Prop} {fr : Nat → T} {S : Store} (h : Q .ret fr S) : W P M n .ret Q fr S :=
  fun E a E0 w0 _ hS hev hI hF => wp_ret ⟨.ret, fr, E, rfl, by rw [hS]; exact h, rfl, hI, hev, hF, rfl⟩

theorem W.region {P : Program} {M n id : Nat} {ops : Array Oper} {Q : Ex → (Nat → T) → Store → Prop} {fr : Nat → T} {S : Store} (hw : wpOpsT P ops n .txt ops.toList (Q .normal) fr S) : W P M n (.region id ops false) Q fr S := by
  intro E a E0 w0 _ hS hev hI hF
  subst hS
  refine wp_region (wpOpsT_sound ops.toList .txt _ fr E a E0 (by simp) (fun i o hi => ?_) hev hI hF hw)
  rw [Array.getElem?_toList] at hi
  exact ⟨i, by rw [List.getElem?_range (Array.getElem?_eq_some_iff.1 hi).1], hi⟩

theorem W.seq {P : Program} {M n : Nat} {x y : Code} {Q : Ex → (Nat → T) → Store → Prop} {fr : Nat → T} {S : Store} {R : (Nat → T) → Store → Prop} (hx : W P M n x (Ex.seq R Q) fr S) (hy : ∀ fr S, R fr S → W P M n y Q fr S) : W P M n (.seq x y) Q fr S := by
  intro E a E0 w0 hM hS hev hI hF
  refine wp_seq (wp_mono (hx E a E0 w0 hM hS hev hI hF) fun e a' w' hp => ?_)
  obtain ⟨ex, fr', E', rfl, hq, rfl, hI, hE, hF, hd⟩ := hp
  cases ex with
  | normal =>
    have := hy fr' E'.S hq E' a' E0 w0 hM rfl hE hI hF
    rw [hd] at this
    exact this
  | exit i => exact ⟨.exit i, fr', E', rfl, hq, rfl, hI, hE, hF, hd⟩
  | ret => exact ⟨.ret, fr', E', rfl, hq, rfl, hI, hE, hF, hd⟩

theorem W.cond {P : Program} {M n : Nat} {c : Operand} {x y : Code} {Q : Ex → (Nat → T) → Store → Prop} {fr : Nat → T} {S : Store} {b : Bool} (hb : TL.ev fr c = .v (.bool b)) (hx : b = true → W P M n x Q fr S) (hy : b = false → W P M n y Q fr S) : W P M n (.cond c x y) Q fr S := by
  intro E a E0 w0 hM hS hev hI hF
  have hv := (hF.ev c).toV _ _ (.bool b) (by rw [hb]; rfl)
  cases b with
  | true => exact wp_cond_true hv (hx rfl E a E0 w0 hM hS hev hI hF)
  | false => exact wp_cond_false hv (hy rfl E a E0 w0 hM hS hev hI hF)

theorem W.block {P : Program} {M n id : Nat} {c : Code} {Q : Ex → (Nat → T) → Store → Prop} {fr : Nat → T} {S : Store} (hw : W P M n c (Ex.block id Q) fr S) : W P M n (.block id c) Q fr S := by
  intro E a E0 w0 hM hS hev hI hF
  refine wp_block (wp_mono (hw E a E0 w0 hM hS hev hI hF) fun e a' w' hp => ?_)
  obtain ⟨ex, fr', E', rfl, hq, rfl, hI, hE, hF, hd⟩ := hp
  cases ex with
  | normal => exact ⟨.normal, fr', E', rfl, hq, rfl, hI, hE, hF, hd⟩
  | exit i =>
    simp only [Ex.block] at hq
    simp only [Ex.to, Exit.inBlock]
    split at hq
    · rename_i hi; rw [if_pos hi]; exact ⟨.normal, fr', E', rfl, hq, rfl, hI, hE, hF, hd⟩
    · rename_i hi; rw [if_neg hi]; exact ⟨.exit i, fr', E', rfl, hq, rfl, hI, hE, hF, hd⟩
  | ret => exact ⟨.ret, fr', E', rfl, hq, rfl, hI, hE, hF, hd⟩

/-- What is left over may be dropped ahead of code. -/
theorem W.gc {P : Program} {M n : Nat} {c : Code} {Q : Ex → (Nat → T) → Store → Prop} {fr fr2 : Nat → T} {S S2 : Store} {keep fz : List Nat} (hg : Gc M S fr S2 fr2 keep fz) (hw : W P M n c Q fr2 S2) : W P M n c Q fr S := by
  intro E a E0 w0 hM hS hev hI hF
  subst hS
  obtain ⟨E2, h1, h2, h3, h4, h5, _⟩ := hg.frees hI hM hev hF
  have := hw E2 a E0 w0 hM h2 h4 h3 h5
  rw [h1] at this
  exact this

theorem W.loop {P : Program} {M n : Nat} {c : Code} {Q : Ex → (Nat → T) → Store → Prop} {fr : Nat → T} {S : Store} (hw : LoopT M (fun Q' => W P M n c Q') Q fr S) : W P M n (.loop c) Q fr S := by
  intro E a E0 w0 hM hS hev hI hF
  obtain ⟨I, k, fr0, S0, keep, fz, hg, h0, hr⟩ := hw
  subst hS
  obtain ⟨E1, e1, e2, e3, e4, e5, _⟩ := hg.frees hI hM hev hF
  rw [← e1]
  refine wp_loop_ix (fun k a' w' => ∃ fr' E', I k fr' E'.S ∧ E'.w = w' ∧ Inv E' w0 ∧ Evo E0 E' ∧ FR E' n fr' a' ∧ a'.defers = a.defers) (n := k) ⟨fr0, E1, by rw [e2]; exact h0, rfl, e3, e4, e5, rfl⟩ ?_
  rintro k a' w' ⟨fr', E', h1, rfl, h2, h3, h4, h5⟩
  refine wp_mono (hr k fr' E'.S h1 E' a' E0 w0 hM rfl h3 h2 h4) fun e a2 w2 hp => ?_
  obtain ⟨ex, fr2, E2, rfl, hq, rfl, hI, hE, hF, hd⟩ := hp
  cases ex with
  | normal =>
    obtain ⟨m, fr3, S3, keep3, fz3, hg3, hm, hq⟩ := hq
    obtain ⟨E3, f1, f2, f3, f4, f5, _⟩ := hg3.frees hI hM hE hF
    exact ⟨m, hm, fr3, E3, by rw [f2]; exact hq, f1, f3, f4, f5, hd.trans h5⟩
  | exit i => exact ⟨.exit i, fr2, E2, rfl, hq, rfl, hI, hE, hF, hd.trans h5⟩
  | ret => exact ⟨.ret, fr2, E2, rfl, hq, rfl, hI, hE, hF, hd.trans h5⟩

theorem W.mono {P : Program} {M n : Nat} {c : Code} {Q Q' : Ex → (Nat → T) → Store → Prop} {fr : Nat → T} {S : Store} (hw : W P M n c Q fr S) (hq : ∀ e fr S, Q e fr S → Q' e fr S) : W P M n c Q' fr S := by
  intro E a E0 w0 hM hS hev hI hF
  refine wp_mono (hw E a E0 w0 hM hS hev hI hF) fun e a' w' hp => ?_
  obtain ⟨ex, fr', E', rfl, hq', rfl, hI, hE, hF, hd⟩ := hp
  exact ⟨ex, fr', E', rfl, hq _ _ _ hq', rfl, hI, hE, hF, hd⟩

theorem W.of {P : Program} {M n : Nat} : ∀ {c : Code} {Q : Ex → (Nat → T) → Store → Prop} {fr : Nat → T} {S : Store}, wpT P M n c Q fr S → W P M n c Q fr S
  | .skip, Q, fr, S, hw => W.of_skip hw
  | .region id ops draw, Q, fr, S, hw => by
    rcases hw with ⟨rfl, hw⟩ | ⟨rfl, hw⟩
    · exact W.region hw
    · exact hw
  | .seq x y, Q, fr, S, hw => W.seq (W.of (c := x) hw) fun fr S h => W.of (c := y) h
  | .cond c x y, Q, fr, S, hw => by
    obtain ⟨b, hb, hw⟩ := hw
    cases b with
    | true => exact W.cond hb (fun _ => W.of (c := x) hw) (fun h => by cases h)
    | false => exact W.cond hb (fun h => by cases h) (fun _ => W.of (c := y) hw)
  | .block id c, Q, fr, S, hw => W.block (W.of (c := c) hw)
  | .loop c, Q, fr, S, hw => W.loop hw
  | .exit id, Q, fr, S, hw => W.exit hw
  | .ret, Q, fr, S, hw => W.ret hw
  | .rangeFunc _ _ _ _, _, _, _, hw => hw.elim
  | .scope _, _, _, _, hw => hw.elim
  | .label _, _, _, _, hw => hw.elim
  | .goto _, _, _, _, hw => hw.elim
  | .refuse _, _, _, _, hw => hw.elim

end Go.TL
