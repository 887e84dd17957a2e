/- New variables and new rows on trees, cuts, lengths, structs: and that the model's operations come to just them. No conditions. -/
import Derived.Test.YtdnclbghhdflmaaTMem
namespace Go.TL
open Go.RowKit

/-- What may lie in a cell: a plain value, a frozen row, a reference to a row of one's own. -/
def cellOk : T → Bool
  | .v x => x.oneCell'
  | .sl false _ _ _ _ => true
  | .ref _ _ _ _ => true
  | _ => false

theorem FzR.oneCell {w : World} {ok : Nat → Prop} {t : T} {val : Value} (h : FzR w ok t val) : val.oneCell' = true := by
  cases h with
  | v _ hx => exact hx
  | sl => rfl

/-- A cell that is written with such a tree. (A reference that has lapsed says nothing of its value: the value's shape is asked for by itself.) -/
theorem TR.cell {E : Env} {t : T} {val : Value} (h : TR E t val) (ho : cellOk t = true) (h1 : val.oneCell' = true) (r : Nat) (p : List Nat) (j : Nat) : CR E r p j t val := by
  cases h with
  | v x => exact .v _ h1
  | sl hf => exact .fz hf
  | ref hr hh => exact .ref h1 (.ref hr hh)
  | ptr => simp [cellOk] at ho
  | pz => simp [cellOk] at ho
  | agg => simp [cellOk] at ho
  | tup => simp [cellOk] at ho
  | clo => simp [cellOk] at ho
  | dead => simp [cellOk] at ho

theorem NoOwn.of_ok {cs : List T} (h : cs.all cellOk = true) : NoOwn cs := by
  intro j k n e cs' hj
  have := List.all_eq_true.1 h _ (List.mem_of_getElem? hj)
  simp [cellOk] at this

def Env.drew (E : Env) : Env := { E with w := E.w.drew }

theorem Inv.new {P : Program} {o : Oper} {a : Act} {E : Env} {w0 : World} (h : Inv E w0) {w' : World} {arr : Array Value} {ty : TypeId} {mk : Nat × Nat} (hm : Made E.w w' arr ty mk) (hmk : MkOk mk arr.size) (e : Nat) (cs : List T) (hok : cs.all cellOk = true) (hlen : cs.length ≤ arr.size)
    (hc : ∀ j c, cs[j]? = some c → TR E c (arr.getD j undef) ∧ (arr.getD j undef).oneCell' = true) {v : Value}
    (hr : (execOp a.eval o).run P E.w = .ok (.value v) w') {t : T} (ht : TR (E.push w' ⟨e, true, cs⟩) t v) :
    Gives P o a E w0 t (E.S ++ [⟨e, true, cs⟩]) := by
  have hno := NoOwn.of_ok hok
  have ev := Evo.push h hm ⟨e, true, cs⟩
  refine ⟨v, _, hr, rfl, h.push hm ⟨e, true, cs⟩ hno hlen hmk (fun j c hj => ?_), ev, ht⟩
  have := hc j c hj
  exact (this.1.evo ev).cell (List.all_eq_true.1 hok _ (List.mem_of_getElem? hj)) this.2 _ _ _

theorem mk0 (n : Nat) : MkOk (0, 0) n := fun o _ hh => by simp at hh

theorem Env.push_at {E : Env} {o : World} {e : Nat} {cs : List T} {any : Bool} : (E.push o ⟨e, true, cs⟩).S.at any E.S.length [] = some (e, cs) := by
  simp only [Env.push]
  rw [Store.at_push, if_pos rfl]
  rfl

theorem ptr_new (E : Env) (o : World) (x : Root) : TR (E.push o x) (.ptr E.S.length [] 0) (.pointer (some ⟨E.w.heap.size, 0, none⟩)) := by
  refine .ptr (by simp [Env.push]) fun _ _ => ?_
  simp [Env.push]

/-! ### alloc -/
def zeroT (P : Program) (t : TypeId) : Option (List T) :=
  match (P.info? t).bind (·.zero) with
  | some z => if z.cells.toList.all (·.oneCell') then some (z.cells.toList.map .v) else none
  | none => none

theorem zeroT_run {P : Program} {t : TypeId} {cs : List T} (h : zeroT P t = some cs) : ∃ z : Value, (∀ w, (zeroValue t).run P w = .ok z w) ∧ cs = z.cells.toList.map .v ∧ z.cells.toList.all (·.oneCell') = true := by
  unfold zeroT at h
  split at h
  case h_2 => cases h
  rename_i z hz
  split at h
  case isFalse => cases h
  rename_i ha
  cases h
  obtain ⟨i, hi, hz⟩ := Option.bind_eq_some_iff.1 hz
  exact ⟨z, fun w => by simp [zeroValue, typeInfo, hi, hz], rfl, ha⟩

theorem cells_v {E : Env} {vs : List Value} (h : vs.all (·.oneCell') = true) : (vs.map T.v).all cellOk = true ∧ ∀ j c, (vs.map T.v)[j]? = some c → TR E c (vs.toArray.getD j undef) ∧ (vs.toArray.getD j undef).oneCell' = true := by
  constructor
  · rw [List.all_map, ← h]; rfl
  · intro j c hj
    rw [List.getElem?_map] at hj
    obtain ⟨v, hv, rfl⟩ := Option.map_eq_some_iff.1 hj
    rw [Array.getD_eq_getD_getElem?, List.getElem?_toArray, hv]
    exact ⟨.v v, List.all_eq_true.1 h _ (List.mem_of_getElem? hv)⟩

theorem alloc_gives {P : Program} {o : Oper} {t : TypeId} (ho : o.op = .alloc t) {a : Act} {E : Env} {w0 : World} (h : Inv E w0) {cs : List T} (hr : zeroT P t = some cs) :
    Gives P o a E w0 (.ptr E.S.length [] 0) (E.S ++ [⟨0, true, cs⟩]) := by
  obtain ⟨z, hz, rfl, ha⟩ := zeroT_run hr
  obtain ⟨h1, h2⟩ := cells_v (E := E) ha
  refine Inv.new h (Made.alloc _ z.cells t _) (mk0 _) 0 _ h1 (by simp) h2 (v := .pointer (some ⟨E.w.heap.size, 0, none⟩)) ?_ (ptr_new _ _ _)
  simp only [execOp, ho, Instr.alloc, Sem.run_bind, hz, Result.andThen_ok, newVar, newRow, run_newObj, Sem.run_pure]
  rfl

/-! ### box -/
def compsT : T → List T
  | .agg ts => ts
  | t => [t]

/-- Is the value's shape known to be that of one cell? -/
def oneT : T → Bool
  | .v x => x.oneCell'
  | .sl _ _ _ _ _ => true
  | .ref _ _ _ _ => true
  | _ => false

def liveT (S : Store) : T → Bool
  | .ref r p _ _ => (S.at false r p).isSome
  | _ => true

theorem TR.one {E : Env} {t : T} {val : Value} (h : TR E t val) (ho : oneT t = true) (hl : liveT E.S t = true) : val.oneCell' = true := by
  cases h with
  | v x => exact ho
  | sl hf => exact hf.oneCell
  | ref hr hh =>
    obtain ⟨⟨e, cs⟩, hy⟩ := Option.isSome_iff_exists.1 hl
    obtain ⟨_, _, _, _, _, _, _, rfl⟩ := hh _ _ hy
    rfl
  | ptr => simp [oneT] at ho
  | pz => simp [oneT] at ho
  | agg => simp [oneT] at ho
  | tup => simp [oneT] at ho
  | clo => simp [oneT] at ho
  | dead => simp [oneT] at ho

def storable (S : Store) (ts : List T) : Bool := ts.all fun t => cellOk t && oneT t && liveT S t

/-- A tree's parts and the value's cells. -/
theorem TR.comps {E : Env} {t : T} {val : Value} (h : TR E t val) (hs : storable E.S (compsT t) = true) :
    val.cells.size = (compsT t).length ∧ (∀ j c, (compsT t)[j]? = some c → TR E c (val.cells.getD j undef) ∧ (val.cells.getD j undef).oneCell' = true) ∧ (compsT t).all cellOk = true ∧ val.cells.toList.all (·.oneCell') = true := by
  have hall : ∀ c ∈ compsT t, cellOk c = true ∧ oneT c = true ∧ liveT E.S c = true := fun c hc => by
    have := List.all_eq_true.1 hs c hc
    simp only [Bool.and_eq_true] at this
    exact ⟨this.1.1, this.1.2, this.2⟩
  have hok : (compsT t).all cellOk = true := List.all_eq_true.2 fun c hc => (hall c hc).1
  have base : val.cells.size = (compsT t).length ∧ ∀ j c, (compsT t)[j]? = some c → TR E c (val.cells.getD j undef) := by
    cases h with
    | agg hsz hh => exact ⟨hsz, hh⟩
    | v x =>
      have h1 := (hall (.v val) (by simp [compsT])).2.1
      have hv : val.cells = #[val] := by cases val <;> first | rfl | (simp [oneT, Value.oneCell'] at h1)
      rw [hv]
      refine ⟨rfl, fun j c hj => ?_⟩
      cases j with
      | zero => simp [compsT] at hj; subst hj; exact .v val
      | succ j => simp [compsT] at hj
    | sl hf =>
      have hv : val.cells = #[val] := by cases hf; rfl
      rw [hv]
      refine ⟨rfl, fun j c hj => ?_⟩
      cases j with
      | zero => simp [compsT] at hj; subst hj; exact .sl hf
      | succ j => simp [compsT] at hj
    | ref hr hh =>
      rename_i r p off n
      have hl := (hall (.ref r p off n) (by simp [compsT])).2.2
      have h1 := (TR.ref hr hh).one (E := E) (t := .ref r p off n) rfl hl
      have hv : val.cells = #[val] := by cases val <;> first | rfl | (simp [Value.oneCell'] at h1)
      rw [hv]
      refine ⟨rfl, fun j c hj => ?_⟩
      cases j with
      | zero => simp [compsT] at hj; subst hj; exact .ref hr hh
      | succ j => simp [compsT] at hj
    | ptr => have := (hall _ (List.mem_singleton.2 rfl)).1; simp [cellOk] at this
    | pz => have := (hall _ (List.mem_singleton.2 rfl)).1; simp [cellOk] at this
    | tup => have := (hall _ (List.mem_singleton.2 rfl)).1; simp [cellOk] at this
    | clo => have := (hall _ (List.mem_singleton.2 rfl)).1; simp [cellOk] at this
    | dead => have := (hall _ (List.mem_singleton.2 rfl)).1; simp [cellOk] at this
  have h3 : ∀ j c, (compsT t)[j]? = some c → TR E c (val.cells.getD j undef) ∧ (val.cells.getD j undef).oneCell' = true := fun j c hj => by
    have hm := hall c (List.mem_of_getElem? hj)
    exact ⟨base.2 j c hj, (base.2 j c hj).one hm.2.1 hm.2.2⟩
  refine ⟨base.1, h3, hok, List.all_eq_true.2 fun v hv => ?_⟩
  obtain ⟨j, hj⟩ := List.getElem?_of_mem hv
  rw [Array.getElem?_toList] at hj
  have hlt : j < (compsT t).length := by rw [← base.1]; exact (Array.getElem?_eq_some_iff.1 hj).1
  have := (h3 j _ (List.getElem?_eq_getElem hlt)).2
  rw [Array.getD_eq_getD_getElem?, hj] at this
  exact this

theorem box_gives {P : Program} {o : Oper} {t : TypeId} {xo : Operand} (ho : o.op = .box t xo) {a : Act} {E : Env} {w0 : World} {n : Nat} {fr : Nat → T} (h : Inv E w0) (hf : FR E n fr a)
    (hs : storable E.S (compsT (ev fr xo)) = true) : Gives P o a E w0 (.ptr E.S.length [] 0) (E.S ++ [⟨0, true, compsT (ev fr xo)⟩]) := by
  obtain ⟨h1, h2, h3, _⟩ := (hf.ev xo).comps hs
  refine Inv.new h (Made.alloc _ (a.eval xo).cells t _) (mk0 _) 0 _ h3 (by omega) h2 (v := .pointer (some ⟨E.w.heap.size, 0, none⟩)) ?_ (ptr_new _ _ _)
  simp only [execOp, ho, Instr.box, Sem.run_bind, newVar, newRow, run_newObj, Result.andThen_ok, Sem.run_pure]
  rfl

end Go.TL
