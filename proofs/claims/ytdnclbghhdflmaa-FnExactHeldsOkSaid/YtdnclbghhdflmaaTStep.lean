/- All operations in one function on trees, and its soundness. No conditions. -/
import Derived.Test.YtdnclbghhdflmaaTApp2
import Derived.Test.YtdnclbghhdflmaaTEqS
namespace Go.TL
open Go.RowKit

def builtinT (P : Program) (S : Store) (fr : Nat → T) (b : Builtin) (args : List Operand) (tys : List TypeId) : Option (T × Store) :=
  match b, args, tys with
  | .len, [x], [t] => (lenT P S t (ev fr x)).map (·, S)
  | .append, [x, y], [t, t2] => appendT P S t t2 (ev fr x) (ev fr y)
  | .min, args, _ => (minMaxT false (args.map (ev fr))).map (·, S)
  | .max, args, _ => (minMaxT true (args.map (ev fr))).map (·, S)
  | _, _, _ => none

def stepT (P : Program) (S : Store) (fr : Nat → T) (o : Oper) : Option (T × Store) :=
  match o.op with
  | .move x => some (ev fr x, S)
  | .assign x => some (ev fr x, S)
  | .pick c a b => (pickT (ev fr c) (ev fr a) (ev fr b)).map (·, S)
  | .alloc t => (zeroT P t).map fun cs => (.ptr S.length [] 0, S ++ [⟨0, true, cs⟩])
  | .box _ x => if storable S (compsT (ev fr x)) = true then some (.ptr S.length [] 0, S ++ [⟨0, true, compsT (ev fr x)⟩]) else none
  | .build t parts => (buildT P S t (partsT fr parts)).map (·, S)
  | .buildSlice t len parts => buildSliceT P S t len (partsT fr parts)
  | .load t x => (loadT P S t (ev fr x)).map (·, S)
  | .store t x y => (storeT P S t (ev fr x) (ev fr y)).map (.dead, ·)
  | .binOp op t x y _ => (binA P op t x y (ev fr x) (ev fr y)).map (·, S)
  | .unOp op _ x => (unT P op (ev fr x)).map (·, S)
  | .convert s d x => convT P S s d (ev fr x)
  | .makeFunc fn first caps => match fn with
    | .func f => if first.toList.isEmpty = true then some (.clo f (caps.toList.map (ev fr)), S) else none
    | _ => none
  | .makeSlice t l c => makeSliceT P S t (ev fr l) (ev fr c)
  | .slice t x lo hi mx => match mx with
    | none => (sliceT P S t (ev fr x) (lo.map (ev fr)) (hi.map (ev fr))).map (·, S)
    | some _ => none
  | .fieldAddr s x f => (fieldAddrT P S s (ev fr x) f).map (·, S)
  | .field t x f => (fieldT P t (ev fr x) f).map (·, S)
  | .indexAddr t x i => (indexAddrT P S t (ev fr x) (ev fr i)).map (·, S)
  | .index t x i => (indexT P t (ev fr x) (ev fr i)).map (·, S)
  | .extract x i => (extractT (ev fr x) i).map (·, S)
  | .call c => match c.callee with
    | .builtin b => builtinT P S fr b c.args.toList c.argTypes.toList
    | _ => none
  | _ => none

/-- What an operation comes to, a store among them. -/
def Steps1 (P : Program) (o : Oper) (a : Act) (E : Env) (w0 : World) (t : T) (S' : Store) : Prop :=
  ∃ nx v E', (execOp a.eval o).run P E.w = .ok nx E'.w ∧ (nx = .value v ∨ (nx = .skip ∧ v = undef)) ∧ E'.S = S' ∧ Inv E' w0 ∧ Evo E E' ∧ TR E' t v

theorem Gives.one {P : Program} {o : Oper} {a : Act} {E : Env} {w0 : World} {t : T} {S' : Store} (h : Gives P o a E w0 t S') : Steps1 P o a E w0 t S' := by
  obtain ⟨v, E', h1, h2, h3, h4, h5⟩ := h
  exact ⟨_, v, E', h1, .inl rfl, h2, h3, h4, h5⟩

theorem toList1 {α : Type} {a : Array α} {x : α} (h : a.toList = [x]) : a = #[x] := by cases a; simp_all
theorem toList2 {α : Type} {a : Array α} {x y : α} (h : a.toList = [x, y]) : a = #[x, y] := by cases a; simp_all

theorem builtin_gives {P : Program} {o : Oper} {c : Call} {b : Builtin} (ho : o.op = .call c) (hc : c.callee = .builtin b) {a : Act} {E : Env} {w0 : World} {n : Nat} {fr : Nat → T}
    (h : Inv E w0) (hf : FR E n fr a) {r : T} {S' : Store} (hr : builtinT P E.S fr b c.args.toList c.argTypes.toList = some (r, S')) : Gives P o a E w0 r S' := by
  obtain ⟨callee, args, argTypes⟩ := c
  simp only at hc hr
  subst hc
  unfold builtinT at hr
  split at hr
  · rename_i x t h1 h2
    obtain rfl := toList1 h1
    obtain rfl := toList1 h2
    obtain ⟨y, hy, hr⟩ := Option.map_eq_some_iff.1 hr
    cases hr
    exact len_gives ho h hf hy
  · rename_i x y t t2 h1 h2
    obtain rfl := toList2 h1
    obtain rfl := toList2 h2
    exact append_gives ho h hf hr
  · obtain ⟨y, hy, hr⟩ := Option.map_eq_some_iff.1 hr
    cases hr
    exact minMax_gives (mx := false) ho h hf hy
  · obtain ⟨y, hy, hr⟩ := Option.map_eq_some_iff.1 hr
    cases hr
    exact minMax_gives (mx := true) ho h hf hy
  · cases hr

theorem step_sound {P : Program} {o : Oper} {a : Act} {E : Env} {w0 : World} {n : Nat} {fr : Nat → T} (h : Inv E w0) (hf : FR E n fr a) {r : T} {S' : Store} (hr : stepT P E.S fr o = some (r, S')) : Steps1 P o a E w0 r S' := by
  unfold stepT at hr
  split at hr
  · rename_i x ho; cases hr; exact (move_gives (.inl ho) h hf).one
  · rename_i x ho; cases hr; exact (move_gives (.inr ho) h hf).one
  · rename_i c x y ho
    obtain ⟨y, hy, hr⟩ := Option.map_eq_some_iff.1 hr; cases hr
    exact (pick_gives ho h hf hy).one
  · rename_i t ho
    obtain ⟨y, hy, hr⟩ := Option.map_eq_some_iff.1 hr; cases hr
    exact (alloc_gives ho h hy).one
  · rename_i t x ho
    split at hr
    · rename_i hs; cases hr; exact (box_gives ho h hf hs).one
    · cases hr
  · rename_i t parts ho
    obtain ⟨y, hy, hr⟩ := Option.map_eq_some_iff.1 hr; cases hr
    exact (build_gives ho h hf hy).one
  · rename_i t len parts ho; exact (buildSlice_gives ho h hf hr).one
  · rename_i t x ho
    obtain ⟨y, hy, hr⟩ := Option.map_eq_some_iff.1 hr; cases hr
    exact (load_gives ho h hf hy).one
  · rename_i t x y ho
    obtain ⟨S1, hy, hr⟩ := Option.map_eq_some_iff.1 hr; cases hr
    obtain ⟨E', h1, h2, h3, h4⟩ := store_run ho h hf hy
    exact ⟨_, undef, E', h1, .inr ⟨rfl, rfl⟩, h2, h3, h4, .dead _⟩
  · rename_i op t x y ty ho
    obtain ⟨y, hy, hr⟩ := Option.map_eq_some_iff.1 hr; cases hr
    exact (binA_gives ho h hf hy).one
  · rename_i op t x ho
    obtain ⟨y, hy, hr⟩ := Option.map_eq_some_iff.1 hr; cases hr
    exact (unT_gives ho h hf hy).one
  · rename_i s d x ho; exact (conv_gives ho h hf hr).one
  · rename_i fn first caps ho
    split at hr
    · rename_i f
      split at hr
      · rename_i he
        cases hr
        have : first = #[] := by cases first; simp_all
        subst this
        exact (makeFunc_gives ho h hf).one
      · cases hr
    · cases hr
  · rename_i t l c ho; exact (makeSlice_gives ho h hf hr).one
  · rename_i t x lo hi mx ho
    split at hr
    · obtain ⟨y, hy, hr⟩ := Option.map_eq_some_iff.1 hr; cases hr
      exact (slice_gives ho h hf hy).one
    · cases hr
  · rename_i s x f ho
    obtain ⟨y, hy, hr⟩ := Option.map_eq_some_iff.1 hr; cases hr
    exact (fieldAddr_gives ho h hf hy).one
  · rename_i t x f ho
    obtain ⟨y, hy, hr⟩ := Option.map_eq_some_iff.1 hr; cases hr
    exact (field_gives ho h hf hy).one
  · rename_i t x i ho
    obtain ⟨y, hy, hr⟩ := Option.map_eq_some_iff.1 hr; cases hr
    exact (indexAddr_gives ho h hf hy).one
  · rename_i t x i ho
    obtain ⟨y, hy, hr⟩ := Option.map_eq_some_iff.1 hr; cases hr
    exact (index_gives ho h hf hy).one
  · rename_i x i ho
    obtain ⟨y, hy, hr⟩ := Option.map_eq_some_iff.1 hr; cases hr
    exact (extract_gives ho h hf hy).one
  · rename_i c ho
    split at hr
    · rename_i b hc; exact (builtin_gives ho hc h hf hr).one
    · cases hr
  · cases hr

end Go.TL
