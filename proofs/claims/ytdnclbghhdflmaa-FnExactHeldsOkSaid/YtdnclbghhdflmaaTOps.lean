/- The operations on trees that touch no memory, and that the model's operations come to just them. No conditions. -/
import Derived.Test.YtdnclbghhdflmaaTUpd
namespace Go.TL
open Go.RowKit

/-- A computation that touches no world. -/
def pureRun {α : Type} (P : Program) : Sem α → Option α
  | .pure a => some a
  | .program k => pureRun P (k P)
  | .mark _ k => pureRun P k
  | _ => none

theorem pureRun_run {α : Type} {P : Program} {m : Sem α} {x : α} (h : pureRun P m = some x) (w : World) : m.run P w = .ok x w := by
  induction m with
  | pure a => simp only [pureRun, Option.some.injEq] at h; subst h; rfl
  | program k ih => exact ih P h
  | mark _ k ih => exact ih h
  | _ => simp [pureRun] at h

theorem pureRun_bind' {α β : Type} (P : Program) (m : Sem α) (f : α → Sem β) : pureRun P (m.bind f) = (pureRun P m).bind fun x => pureRun P (f x) := by
  induction m with
  | pure a => rfl
  | program k ih => exact ih P
  | mark _ k ih => exact ih
  | _ => rfl

@[simp] theorem pureRun_bind {α β : Type} (P : Program) (m : Sem α) (f : α → Sem β) : pureRun P (m >>= f) = (pureRun P m).bind fun x => pureRun P (f x) := pureRun_bind' P m f
@[simp] theorem pureRun_map {α β : Type} (P : Program) (m : Sem α) (f : α → β) : pureRun P (f <$> m) = (pureRun P m).map f := by
  show pureRun P (m.bind fun a => Sem.pure (f a)) = _
  rw [pureRun_bind']
  cases pureRun P m <;> rfl
@[simp] theorem pureRun_pure {α : Type} (P : Program) (x : α) : pureRun P (pure x : Sem α) = some x := rfl
@[simp] theorem pureRun_pure' {α : Type} (P : Program) (x : α) : pureRun P (Sem.pure x : Sem α) = some x := rfl
@[simp] theorem pureRun_halt {α : Type} (P : Program) (x : Halt) : pureRun P (Sem.halt x : Sem α) = none := rfl
@[simp] theorem pureRun_program (P : Program) : pureRun P program = some P := rfl
@[simp] theorem pureRun_stuck {α : Type} (P : Program) (x : String) : pureRun P (stuck x : Sem α) = none := rfl
@[simp] theorem pureRun_unsupported {α : Type} (P : Program) (x : Unsupported) : pureRun P (unsupported x : Sem α) = none := rfl
@[simp] theorem pureRun_ite {α : Type} (P : Program) (c : Prop) [Decidable c] (x y : Sem α) : pureRun P (if c then x else y) = if c then pureRun P x else pureRun P y := by split <;> rfl

mutual
def toV : T → Option Value
  | .v x => some x
  | .agg ts => (toVs ts).map fun l => .agg l.toArray
  | _ => none
def toVs : List T → Option (List Value)
  | [] => some []
  | t :: ts => (toV t).bind fun x => (toVs ts).map fun l => x :: l
end

def ofV : Value → T
  | .agg cs => .agg (cs.toList.map .v)
  | x => .v x

theorem TR.ofV (E : Env) (x : Value) : TR E (ofV x) x := by
  unfold TL.ofV
  split
  · refine .agg (by simp) fun i t ht => ?_
    rw [List.getElem?_map] at ht
    obtain ⟨y, hy, rfl⟩ := Option.map_eq_some_iff.1 ht
    rw [Array.getElem?_toList] at hy
    rw [Array.getD_eq_getD_getElem?, hy]
    exact .v y
  · exact .v x

mutual
theorem TR.toV {E : Env} : ∀ (t : T) (x y : Value), TR E t x → toV t = some y → x = y
  | .v z, x, y, h, hy => by
    simp only [TL.toV, Option.some.injEq] at hy; subst hy; cases h; rfl
  | .agg ts, x, y, h, hy => by
    simp only [TL.toV] at hy
    obtain ⟨l, hl, rfl⟩ := Option.map_eq_some_iff.1 hy
    cases h with
    | agg hs h =>
      rename_i vs
      have := TR.toVs ts vs.toList l (by simpa using hs) (fun i t ht => by have := h i t ht; rw [Array.getD_eq_getD_getElem?] at this; rw [List.getD_eq_getElem?_getD, Array.getElem?_toList]; exact this) hl
      rw [← this]
  | .sl _ _ _ _ _, _, _, _, hy => by simp [TL.toV] at hy
  | .ref _ _ _ _, _, _, _, hy => by simp [TL.toV] at hy
  | .ptr _ _ _, _, _, _, hy => by simp [TL.toV] at hy
  | .pz _ _ _, _, _, _, hy => by simp [TL.toV] at hy
  | .tup _, _, _, _, hy => by simp [TL.toV] at hy
  | .clo _ _, _, _, _, hy => by simp [TL.toV] at hy
  | .dead, _, _, _, hy => by simp [TL.toV] at hy
theorem TR.toVs {E : Env} : ∀ (ts : List T) (vs l : List Value), vs.length = ts.length → (∀ i t, ts[i]? = some t → TR E t (vs.getD i undef)) → toVs ts = some l → vs = l
  | [], vs, l, hs, _, hl => by
    simp only [TL.toVs, Option.some.injEq] at hl; subst hl; simpa using hs
  | t :: ts, vs, l, hs, h, hl => by
    simp only [TL.toVs] at hl
    obtain ⟨x, hx, hl⟩ := Option.bind_eq_some_iff.1 hl
    obtain ⟨l', hl', rfl⟩ := Option.map_eq_some_iff.1 hl
    cases vs with
    | nil => simp at hs
    | cons u us =>
      have h0 := h 0 t rfl
      have e1 := TR.toV t u x (by simpa using h0) hx
      have e2 := TR.toVs ts us l' (by simpa using hs) (fun i t ht => by simpa using h (i + 1) t (by simpa using ht)) hl'
      rw [e1, e2]
end

def ev (fr : Nat → T) : Operand → T
  | .tmp t => fr t
  | .const v => .v v
  | .global g => .v (.pointer (some ⟨g, 0, none⟩))
  | .func f => .v (.func (.func f) #[] #[])

structure FR (E : Env) (n : Nat) (fr : Nat → T) (a : Act) : Prop where
  size : a.tmps.size = n
  tr : ∀ t, TR E (fr t) (a.tmps.getD t undef)

theorem FR.ev {E : Env} {n : Nat} {fr : Nat → T} {a : Act} (h : FR E n fr a) (x : Operand) : TR E (ev fr x) (a.eval x) := by
  cases x with
  | tmp t => exact h.tr t
  | const v => exact .v v
  | global g => exact .v _
  | func f => exact .v _

theorem FR.evo {E E' : Env} {n : Nat} {fr : Nat → T} {a : Act} (h : FR E n fr a) (k : Evo E E') : FR E' n fr a := ⟨h.size, fun t => (h.tr t).evo k⟩

def upd (fr : Nat → T) (d : Nat) (t : T) : Nat → T := fun i => if i = d then t else fr i

def put (fr : Nat → T) : Option Nat → T → Nat → T
  | some d, t => upd fr d t
  | none, _ => fr

def okDst (n : Nat) : Option Nat → Bool
  | some d => d < n
  | none => true

theorem FR.put {E : Env} {n : Nat} {fr : Nat → T} {a : Act} (h : FR E n fr a) {d : Option Nat} (hd : okDst n d = true) {t : T} {v : Value} (ht : TR E t v) : FR E n (put fr d t) (a.put d v) := by
  cases d with
  | none => exact h
  | some d =>
    have hd' : d < n := by simpa [okDst] using hd
    refine ⟨by simp [Act.put, h.size], fun i => ?_⟩
    simp only [TL.put, upd, Act.put]
    by_cases e : i = d
    · subst e
      rw [if_pos rfl, Array.getD_eq_getD_getElem?, Array.getElem?_setIfInBounds_self_of_lt (by rw [h.size]; exact hd')]
      exact ht
    · rw [if_neg e, Array.getD_eq_getD_getElem?, Array.getElem?_setIfInBounds_ne (Ne.symm e), ← Array.getD_eq_getD_getElem?]
      exact h.tr i

theorem FR.defers {E : Env} {n : Nat} {fr : Nat → T} {a : Act} (h : FR E n fr a) (d : List Deferred) : FR E n fr { a with defers := d } := ⟨h.size, h.tr⟩

/-- What an operation that gives a value comes to: the value, the roots behind it. -/
def Gives (P : Program) (o : Oper) (a : Act) (E : Env) (w0 : World) (t : T) (S' : Store) : Prop :=
  ∃ v E', (execOp a.eval o).run P E.w = .ok (.value v) E'.w ∧ E'.S = S' ∧ Inv E' w0 ∧ Evo E E' ∧ TR E' t v

theorem Gives.pure {P : Program} {o : Oper} {a : Act} {E : Env} {w0 : World} (h : Inv E w0) {v : Value} (hr : (execOp a.eval o).run P E.w = .ok (.value v) E.w) {t : T} (ht : TR E t v) : Gives P o a E w0 t E.S :=
  ⟨v, E, hr, rfl, h, Evo.refl E, ht⟩

/-- Operations on plain values: just what the model says. -/
def binT (P : Program) (op : BinOp) (t : TypeId) (xo yo : Operand) (x y : T) : Option T :=
  match toV x, toV y with
  | some a, some b => (pureRun P (do eqGuard op t xo yo a b; binOp op t a b)).map ofV
  | _, _ => none

theorem binT_gives {P : Program} {o : Oper} {op : BinOp} {t ty : TypeId} {xo yo : Operand} (ho : o.op = .binOp op t xo yo ty) {a : Act} {E : Env} {w0 : World} {n : Nat} {fr : Nat → T}
    (h : Inv E w0) (hf : FR E n fr a) {r : T} (hr : binT P op t xo yo (ev fr xo) (ev fr yo) = some r) : Gives P o a E w0 r E.S := by
  unfold binT at hr
  split at hr
  case h_2 => cases hr
  rename_i x y hx hy
  have ex := (hf.ev xo).toV _ _ _ hx
  have ey := (hf.ev yo).toV _ _ _ hy
  obtain ⟨v, hv, rfl⟩ := Option.map_eq_some_iff.1 hr
  refine Gives.pure h (v := v) ?_ (TR.ofV E v)
  simp only [execOp, ho]
  rw [ex, ey]
  have := pureRun_run hv E.w
  simp only [Sem.run_bind] at this ⊢
  rw [this]; rfl

def unT (P : Program) (op : UnOp) (x : T) : Option T :=
  match toV x with
  | some a => (pureRun P (Op.unary op a)).map ofV
  | none => none

theorem unT_gives {P : Program} {o : Oper} {op : UnOp} {t : TypeId} {xo : Operand} (ho : o.op = .unOp op t xo) {a : Act} {E : Env} {w0 : World} {n : Nat} {fr : Nat → T}
    (h : Inv E w0) (hf : FR E n fr a) {r : T} (hr : unT P op (ev fr xo) = some r) : Gives P o a E w0 r E.S := by
  unfold unT at hr
  split at hr
  case h_2 => cases hr
  rename_i x hx
  have ex := (hf.ev xo).toV _ _ _ hx
  obtain ⟨v, hv, rfl⟩ := Option.map_eq_some_iff.1 hr
  refine Gives.pure h (v := v) ?_ (TR.ofV E v)
  simp only [execOp, ho, Sem.run_bind]
  rw [ex, pureRun_run hv E.w]; rfl

theorem move_gives {P : Program} {o : Oper} {xo : Operand} (ho : o.op = .move xo ∨ o.op = .assign xo) {a : Act} {E : Env} {w0 : World} {n : Nat} {fr : Nat → T}
    (h : Inv E w0) (hf : FR E n fr a) : Gives P o a E w0 (ev fr xo) E.S := by
  refine Gives.pure h (v := a.eval xo) ?_ (hf.ev xo)
  rcases ho with ho | ho <;> simp only [execOp, ho] <;> rfl

def pickT (c x y : T) : Option T :=
  match c with
  | .v (.bool b) => some (if b then x else y)
  | _ => none

theorem pick_gives {P : Program} {o : Oper} {co xo yo : Operand} (ho : o.op = .pick co xo yo) {a : Act} {E : Env} {w0 : World} {n : Nat} {fr : Nat → T}
    (h : Inv E w0) (hf : FR E n fr a) {r : T} (hr : pickT (ev fr co) (ev fr xo) (ev fr yo) = some r) : Gives P o a E w0 r E.S := by
  unfold pickT at hr
  split at hr
  case h_2 => cases hr
  rename_i b hc
  cases hr
  have hb := hf.ev co
  rw [hc] at hb
  have hev := hb.toV _ _ (.bool b) rfl
  refine Gives.pure h (v := if b then a.eval xo else a.eval yo) ?_ ?_
  · simp only [execOp, ho]; rw [hev]; simp [asBool]
  · cases b
    · exact hf.ev yo
    · exact hf.ev xo

/-- A part of a tuple. -/
def extractT (x : T) (i : Nat) : Option T :=
  match x with
  | .tup ts => ts[i]?
  | _ => none

theorem extract_gives {P : Program} {o : Oper} {xo : Operand} {i : Nat} (ho : o.op = .extract xo i) {a : Act} {E : Env} {w0 : World} {n : Nat} {fr : Nat → T}
    (h : Inv E w0) (hf : FR E n fr a) {r : T} (hr : extractT (ev fr xo) i = some r) : Gives P o a E w0 r E.S := by
  unfold extractT at hr
  split at hr
  case h_2 => cases hr
  rename_i ts hts
  have hx := hf.ev xo
  rw [hts] at hx
  generalize hv : a.eval xo = val at hx
  cases hx with
  | tup hs hh =>
    rename_i vs
    have hi : i < vs.size := by rw [hs]; exact (List.getElem?_eq_some_iff.1 hr).1
    refine Gives.pure h (v := vs.getD i undef) ?_ (hh i r hr)
    simp only [execOp, ho, hv, Instr.extract]
    rw [Array.getD_eq_getD_getElem?, Array.getElem?_eq_getElem hi]
    rfl

end Go.TL
