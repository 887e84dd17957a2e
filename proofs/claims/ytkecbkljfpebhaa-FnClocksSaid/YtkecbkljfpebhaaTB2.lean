/- The logic on trees, texts joined. No conditions. -/
import Derived.Test.YtkecbkljfpebhaaTB1
import Derived.Orders
import Derived.IntWalk
import Derived.KernelRfl
/- All operations in one function on trees, and its soundness. No conditions. -/
namespace Go.TL
set_option linter.unusedSimpArgs false
open Go.RowKit

/-- An append to a row, or to one that lies in a cell of another. -/
def appendX (P : Program) (S : Store) (t u : TypeId) (x y : T) : Option (T × Store) :=
  match x with
  | .ref r (c :: p) off n => appendT P (outS r (c :: p).dropLast ((c :: p).getLast (List.cons_ne_nil c p)) S) t u (reT (outF r (c :: p).dropLast ((c :: p).getLast (List.cons_ne_nil c p)) S.length) (.ref r (c :: p) off n)) (reT (outF r (c :: p).dropLast ((c :: p).getLast (List.cons_ne_nil c p)) S.length) y)
  | x => appendT P S t u x y
theorem ev_re (f : NMap) (fr : Nat → T) (x : Operand) : ev (fun i => reT f (fr i)) x = reT f (ev fr x) := by cases x <;> rfl
theorem appendX_gives {P : Program} {o : Oper} {t ty2 : TypeId} {xo yo : Operand} (ho : o.op = .call { callee := .builtin .append, args := #[xo, yo], argTypes := #[t, ty2] }) {a : Act} {E : Env} {w0 : World} {N : Nat} {fr : Nat → T}
    (h : Inv E w0) (hf : FR E N fr a) {r : T} {S' : Store} (hr : appendX P E.S t ty2 (ev fr xo) (ev fr yo) = some (r, S')) : Gives P o a E w0 r S' := by
  unfold appendX at hr
  split at hr
  · rename_i r' c p off n hx
    obtain ⟨E1, k1, k2, k3, k4, k5⟩ := out_env h (Evo.refl E) r' (c :: p).dropLast ((c :: p).getLast (List.cons_ne_nil c p))
    rw [← hx, ← ev_re, ← ev_re, ← k2] at hr
    have hf1 : FR E1 N (fun i => reT (outF r' (c :: p).dropLast ((c :: p).getLast (List.cons_ne_nil c p)) E.S.length) (fr i)) a := ⟨hf.size, fun i => k5 _ _ (hf.tr i)⟩
    obtain ⟨v, E2, g1, g2, g3, g4, g5⟩ := append_gives ho k3 hf1 hr
    exact ⟨v, E2, by rw [← k1]; exact g1, g2, g3, k4.trans g4, g5⟩
  · exact append_gives ho h hf hr

def builtinT (P : Program) (S : Store) (fr : Nat → T) (b : Builtin) (args : List Operand) (tys : List TypeId) : Option (T × Store) :=
  match b, args, tys with
  | .len, [x], [t] => (lenT P S t (ev fr x)).map (·, S)
  | .append, [x, y], [t, t2] => appendX P S t t2 (ev fr x) (ev fr y)
  | .min, args, _ => (minMaxT false (args.map (ev fr))).map (·, S)
  | .max, args, _ => (minMaxT true (args.map (ev fr))).map (·, S)
  | .clear, [x], [t] => clearT P S t (ev fr x)
  | _, _, _ => none

/-- A pointer that is not nil. -/
def nilT (S : Store) : T → Option T
  | .ptr r p off => (S.at false r p).map fun _ => .ptr r p off
  | .pz k cs off => some (.pz k cs off)
  | _ => none
theorem nil_gives {P : Program} {o : Oper} {xo : Operand} (ho : o.op = .nilCheck xo) {a : Act} {E : Env} {w0 : World} {n : Nat} {fr : Nat → T}
    (h : Inv E w0) (hf : FR E n fr a) {r : T} (hr : nilT E.S (ev fr xo) = some r) : Gives P o a E w0 r E.S := by
  have key : ∀ (t : T) (v : Value), TR E t v → nilT E.S t = some r → TR E r v ∧ ∃ b, v = .pointer (some b) := by
    intro t v ht hr
    cases ht with
    | ptr hlt hv =>
      simp only [nilT, Option.map_eq_some_iff] at hr
      obtain ⟨x, hx, rfl⟩ := hr
      exact ⟨.ptr hlt hv, _, hv x hx⟩
    | pz f hok hcell hrec =>
      simp only [nilT, Option.some.injEq] at hr
      subst hr
      exact ⟨.pz f hok hcell hrec, _, rfl⟩
    | _ => cases hr
  obtain ⟨h1, b, h2⟩ := key _ _ (hf.ev xo) hr
  refine Gives.pure h (v := a.eval xo) ?_ h1
  simp only [execOp, ho, h2]; rfl

def stepT (P : Program) (S : Store) (fr : Nat → T) (o : Oper) : Option (T × Store) :=
  match o.op with
  | .move x => some (ev fr x, S)
  | .assign x => some (ev fr x, S)
  | .pick c a b => (pickT (ev fr c) (ev fr a) (ev fr b)).map (·, S)
  | .alloc t => (zeroT P t).map fun cs => (.ptr S.length [] 0, S ++ [⟨0, true, cs⟩])
  | .box _ x => if storable S (compsT (ev fr x)) = true then some (.ptr S.length [] 0, S ++ [⟨0, true, compsT (ev fr x)⟩]) else none
  | .build t parts => (buildT P S t (partsT fr parts)).map (·, S)
  | .buildSlice t len parts => buildSliceT P S t len (partsT fr parts)
  | .load t x => (loadT P S t (ev fr x)).map (·, S)
  | .store t x y => (storeT P S t (ev fr x) (ev fr y)).map (.dead, ·)
  | .binOp op t x y _ => (binA P op t x y (ev fr x) (ev fr y)).map (·, S)
  | .unOp op _ x => (unT P op (ev fr x)).map (·, S)
  | .convert s d x => convT P S s d (ev fr x)
  | .makeFunc fn first caps => match fn with
    | .func f => if first.toList.isEmpty = true then some (.clo f (caps.toList.map (ev fr)), S) else none
    | _ => none
  | .makeSlice t l c => makeSliceT P S t (ev fr l) (ev fr c)
  | .slice t x lo hi mx => match mx with
    | none => (sliceT P S t (ev fr x) (lo.map (ev fr)) (hi.map (ev fr))).map (·, S)
    | some _ => none
  | .fieldAddr s x f => (fieldAddrT P S s (ev fr x) f).map (·, S)
  | .field t x f => (fieldT P t (ev fr x) f).map (·, S)
  | .indexAddr t x i => (indexAddrT P S t (ev fr x) (ev fr i)).map (·, S)
  | .index t x i => (indexT P t (ev fr x) (ev fr i)).map (·, S)
  | .extract x i => (extractT (ev fr x) i).map (·, S)
  | .nilCheck x => (nilT S (ev fr x)).map (·, S)
  | .call c => match c.callee with
    | .builtin b => builtinT P S fr b c.args.toList c.argTypes.toList
    | _ => none
  | _ => none

/-- What an operation comes to, a store among them. -/
def Steps1 (P : Program) (o : Oper) (a : Act) (E : Env) (w0 : World) (t : T) (S' : Store) : Prop :=
  ∃ nx v E', (execOp a.eval o).run P E.w = .ok nx E'.w ∧ (nx = .value v ∨ (nx = .skip ∧ v = undef)) ∧ E'.S = S' ∧ Inv E' w0 ∧ Evo E E' ∧ TR E' t v

theorem Gives.one {P : Program} {o : Oper} {a : Act} {E : Env} {w0 : World} {t : T} {S' : Store} (h : Gives P o a E w0 t S') : Steps1 P o a E w0 t S' := by
  obtain ⟨v, E', h1, h2, h3, h4, h5⟩ := h
  exact ⟨_, v, E', h1, .inl rfl, h2, h3, h4, h5⟩

theorem toList1 {α : Type} {a : Array α} {x : α} (h : a.toList = [x]) : a = #[x] := by cases a; simp_all
theorem toList2 {α : Type} {a : Array α} {x y : α} (h : a.toList = [x, y]) : a = #[x, y] := by cases a; simp_all

theorem builtin_gives {P : Program} {o : Oper} {c : Call} {b : Builtin} (ho : o.op = .call c) (hc : c.callee = .builtin b) {a : Act} {E : Env} {w0 : World} {n : Nat} {fr : Nat → T}
    (h : Inv E w0) (hf : FR E n fr a) {r : T} {S' : Store} (hr : builtinT P E.S fr b c.args.toList c.argTypes.toList = some (r, S')) : Gives P o a E w0 r S' := by
  obtain ⟨callee, args, argTypes⟩ := c
  simp only at hc hr
  subst hc
  unfold builtinT at hr
  split at hr
  · rename_i x t h1 h2
    obtain rfl := toList1 h1
    obtain rfl := toList1 h2
    obtain ⟨y, hy, hr⟩ := Option.map_eq_some_iff.1 hr
    cases hr
    exact len_gives ho h hf hy
  · rename_i x y t t2 h1 h2
    obtain rfl := toList2 h1
    obtain rfl := toList2 h2
    exact appendX_gives ho h hf hr
  · obtain ⟨y, hy, hr⟩ := Option.map_eq_some_iff.1 hr
    cases hr
    exact minMax_gives (mx := false) ho h hf hy
  · obtain ⟨y, hy, hr⟩ := Option.map_eq_some_iff.1 hr
    cases hr
    exact minMax_gives (mx := true) ho h hf hy
  · rename_i x t h1 h2
    obtain rfl := toList1 h1
    obtain rfl := toList1 h2
    exact clear_gives ho h hf hr
  · cases hr

theorem step_sound {P : Program} {o : Oper} {a : Act} {E : Env} {w0 : World} {n : Nat} {fr : Nat → T} (h : Inv E w0) (hf : FR E n fr a) {r : T} {S' : Store} (hr : stepT P E.S fr o = some (r, S')) : Steps1 P o a E w0 r S' := by
  unfold stepT at hr
  split at hr
  · rename_i x ho; cases hr; exact (move_gives (.inl ho) h hf).one
  · rename_i x ho; cases hr; exact (move_gives (.inr ho) h hf).one
  · rename_i c x y ho
    obtain ⟨y, hy, hr⟩ := Option.map_eq_some_iff.1 hr; cases hr
    exact (pick_gives ho h hf hy).one
  · rename_i t ho
    obtain ⟨y, hy, hr⟩ := Option.map_eq_some_iff.1 hr; cases hr
    exact (alloc_gives ho h hy).one
  · rename_i t x ho
    split at hr
    · rename_i hs; cases hr; exact (box_gives ho h hf hs).one
    · cases hr
  · rename_i t parts ho
    obtain ⟨y, hy, hr⟩ := Option.map_eq_some_iff.1 hr; cases hr
    exact (build_gives ho h hf hy).one
  · rename_i t len parts ho; exact (buildSlice_gives ho h hf hr).one
  · rename_i t x ho
    obtain ⟨y, hy, hr⟩ := Option.map_eq_some_iff.1 hr; cases hr
    exact (load_gives ho h hf hy).one
  · rename_i t x y ho
    obtain ⟨S1, hy, hr⟩ := Option.map_eq_some_iff.1 hr; cases hr
    obtain ⟨E', h1, h2, h3, h4⟩ := store_run ho h hf hy
    exact ⟨_, undef, E', h1, .inr ⟨rfl, rfl⟩, h2, h3, h4, .dead _⟩
  · rename_i op t x y ty ho
    obtain ⟨y, hy, hr⟩ := Option.map_eq_some_iff.1 hr; cases hr
    exact (binA_gives ho h hf hy).one
  · rename_i op t x ho
    obtain ⟨y, hy, hr⟩ := Option.map_eq_some_iff.1 hr; cases hr
    exact (unT_gives ho h hf hy).one
  · rename_i s d x ho; exact (conv_gives ho h hf hr).one
  · rename_i fn first caps ho
    split at hr
    · rename_i f
      split at hr
      · rename_i he
        cases hr
        have : first = #[] := by cases first; simp_all
        subst this
        exact (makeFunc_gives ho h hf).one
      · cases hr
    · cases hr
  · rename_i t l c ho; exact (makeSlice_gives ho h hf hr).one
  · rename_i t x lo hi mx ho
    split at hr
    · obtain ⟨y, hy, hr⟩ := Option.map_eq_some_iff.1 hr; cases hr
      exact (slice_gives ho h hf hy).one
    · cases hr
  · rename_i s x f ho
    obtain ⟨y, hy, hr⟩ := Option.map_eq_some_iff.1 hr; cases hr
    exact (fieldAddr_gives ho h hf hy).one
  · rename_i t x f ho
    obtain ⟨y, hy, hr⟩ := Option.map_eq_some_iff.1 hr; cases hr
    exact (field_gives ho h hf hy).one
  · rename_i t x i ho
    obtain ⟨y, hy, hr⟩ := Option.map_eq_some_iff.1 hr; cases hr
    exact (indexAddr_gives ho h hf hy).one
  · rename_i t x i ho
    obtain ⟨y, hy, hr⟩ := Option.map_eq_some_iff.1 hr; cases hr
    exact (index_gives ho h hf hy).one
  · rename_i x i ho
    obtain ⟨y, hy, hr⟩ := Option.map_eq_some_iff.1 hr; cases hr
    exact (extract_gives ho h hf hy).one
  · rename_i x ho
    obtain ⟨y, hy, hr⟩ := Option.map_eq_some_iff.1 hr; cases hr
    exact (nil_gives ho h hf hy).one
  · rename_i c ho
    split at hr
    · rename_i b hc; exact (builtin_gives ho hc h hf hr).one
    · cases hr
  · cases hr

end Go.TL

/- A row of the call's own that is written no more, seen as frozen. No conditions. -/
namespace Go.TL
set_option linter.unusedSimpArgs false
open Go.RowKit

/-- A cell without a node of its own and without a reference. -/
def flatC : T → Bool
  | .v _ => true
  | .sl false k _ _ _ => k == 0
  | _ => false

/-- What a reference to a root is once the root is frozen. -/
def fzRef (x : Root) (off n : Nat) : T :=
  if x.live = true ∧ off + n * x.e ≤ x.cs.length ∧ x.cs.all flatC = true then .sl false 0 n x.e ((x.cs.drop off).take (n * x.e)) else .dead

mutual
def fzT (x : Root) (r : Nat) : T → T
  | .sl true k n e cs => .sl true k n e (fzTs x r cs)
  | .ref r' p off n => if r' = r then (match p with | [] => fzRef x off n | _ => .dead) else .ref r' p off n
  | .ptr r' p off => if r' = r then .dead else .ptr r' p off
  | .agg cs => .agg (fzTs x r cs)
  | .tup cs => .tup (fzTs x r cs)
  | .clo f cs => .clo f (fzTs x r cs)
  | t => t
def fzTs (x : Root) (r : Nat) : List T → List T
  | [] => []
  | c :: cs => fzT x r c :: fzTs x r cs
end

theorem fzTs_map (x : Root) (r : Nat) : ∀ cs : List T, fzTs x r cs = cs.map (fzT x r)
  | [] => rfl
  | c :: cs => by rw [fzTs, fzTs_map x r cs]; rfl

theorem fzTs_length (x : Root) (r : Nat) (cs : List T) : (fzTs x r cs).length = cs.length := by rw [fzTs_map, List.length_map]

theorem fz_noown (x : Root) (r : Nat) (c : T) (k n e : Nat) (cs : List T) (h : fzT x r c = .sl true k n e cs) : ∃ cs', c = .sl true k n e cs' ∧ cs = fzTs x r cs' := by
  cases c with
  | sl own =>
    cases own with
    | false => simp [fzT] at h
    | true => simp only [fzT, T.sl.injEq] at h; obtain ⟨_, rfl, rfl, rfl, rfl⟩ := h; exact ⟨_, rfl, rfl⟩
  | ref r' p off n' =>
    simp only [fzT] at h
    split at h
    · cases p with
      | nil => simp only [fzRef] at h; split at h <;> cases h
      | cons => cases h
    · cases h
  | ptr r' p off => simp only [fzT] at h; split at h <;> cases h
  | _ => simp [fzT] at h

theorem cellsAt_fzTs (x : Root) (r : Nat) (any : Bool) : ∀ (p : List Nat) (e : Nat) (cs : List T), cellsAt any e (fzTs x r cs) p = (cellsAt any e cs p).map fun y => (y.1, fzTs x r y.2)
  | [], e, cs => rfl
  | c :: p, e, cs => by
    unfold cellsAt
    rw [fzTs_map, List.getElem?_map]
    cases hc : cs[c]? with
    | none => rfl
    | some t =>
      cases t with
      | sl own k n e' cs' =>
        cases own with
        | false => rfl
        | true =>
          simp only [Option.map_some, fzT]
          split
          · exact cellsAt_fzTs x r any p e' cs'
          · rfl
      | ref r' p' off n =>
        simp only [Option.map_some, fzT]
        by_cases hr : r' = r
        · simp only [if_pos hr]
          cases p' with
          | nil =>
            simp only [fzRef]
            by_cases hc2 : x.live = true ∧ off + n * x.e ≤ x.cs.length ∧ x.cs.all flatC = true
            · simp only [if_pos hc2]; rfl
            · simp only [if_neg hc2]; rfl
          | cons => rfl
        · simp only [if_neg hr]; rfl
      | ptr r' p' off =>
        simp only [Option.map_some, fzT]
        by_cases hr : r' = r
        · simp only [if_pos hr]; rfl
        · simp only [if_neg hr]; rfl
      | _ => rfl

def fzS (r : Nat) (S : Store) : Store := (S.kill r).map fun y => ⟨y.e, y.live, fzTs (rootAt S r) r y.cs⟩

def Env.fz (E : Env) (r : Nat) : Env := { E with S := fzS r E.S }

section
variable {E : Env} {w0 : World} {r : Nat}

theorem fz_at {any : Bool} {S : Store} {r' : Nat} {p : List Nat} : (fzS r S).at any r' p = if r' = r then none else (S.at any r' p).map fun y => (y.1, fzTs (rootAt S r) r y.2) := by
  have hk := Store.at_kill (any := any) (S := S) (r := r) (r' := r') (p := p)
  have : (fzS r S).at any r' p = ((S.kill r).at any r' p).map fun y => (y.1, fzTs (rootAt S r) r y.2) := by
    unfold Store.at fzS
    rw [List.getElem?_map]
    cases (S.kill r)[r']? with
    | none => rfl
    | some y =>
      simp only [Option.map_some]
      split
      · exact cellsAt_fzTs _ _ _ _ _ _
      · rfl
  rw [this, hk]
  split <;> rfl

theorem fz_at_of {any : Bool} {r' : Nat} {p : List Nat} {x : Nat × List T} (hx : (E.fz r).S.at any r' p = some x) : r' ≠ r ∧ ∃ x1, E.S.at any r' p = some x1 ∧ x = (x1.1, fzTs (rootAt E.S r) r x1.2) := by
  have hx' : (fzS r E.S).at any r' p = some x := hx
  rw [fz_at] at hx'
  split at hx'
  · cases hx'
  · rename_i hne
    obtain ⟨x1, h1, rfl⟩ := Option.map_eq_some_iff.1 hx'
    exact ⟨hne, x1, h1, rfl⟩

theorem fz_len : (E.fz r).S.length = E.S.length := by
  show (fzS r E.S).length = _
  rw [fzS, List.length_map, Store.kill_length]

theorem fz_own {b : Nat} (h : (E.fz r).own b) : E.own b := by
  obtain ⟨r', p, x, hx, hb⟩ := h
  obtain ⟨_, x1, h1, _⟩ := fz_at_of hx
  exact ⟨r', p, x1, h1, hb⟩

theorem fz_okz {k b : Nat} (h : E.okz k b) : (E.fz r).okz k b := ⟨h.1, fun ho => h.2.1 (fz_own ho), h.2.2⟩

/-- The frozen root's block. -/
theorem fz_new (h : Inv E w0) {x : Nat × List T} (hx : E.S.at true r [] = some x) : (E.fz r).okz 0 (E.φ r []) := by
  refine ⟨(Env.own_lt h ⟨r, [], x, hx, rfl⟩).2, ?_, fun hlt => h.frz r [] x hx hlt⟩
  rintro ⟨r', p, y, hy, hb⟩
  obtain ⟨hne, x1, h1, _⟩ := fz_at_of hy
  exact hne (h.inj _ _ _ _ _ _ h1 hx hb).1

theorem fz_flat {p : List Nat} {j : Nat} {c : T} {v : Value} (hcr : CR E r p j c v) (hc : flatC c = true) : FzR E.w ((E.fz r).okz 0) c v := by
  cases hcr with
  | v _ hv => exact .v _ hv
  | fz hz =>
    rename_i k n e cs
    have hk : k = 0 := by simpa [flatC] using hc
    subst hk
    exact hz.evo fun b hb => ⟨fz_okz hb, rfl⟩
  | own _ _ => cases hc
  | ref _ _ => cases hc
  | dead _ _ => cases hc

theorem fz_ref (h : Inv E w0) {off n : Nat} {v : Value} (ht : TR E (.ref r [] off n) v) : TR (E.fz r) (fzRef (rootAt E.S r) off n) v := by
  unfold fzRef
  split
  · rename_i hc
    obtain ⟨hl, hn, hfl⟩ := hc
    cases ht with
    | ref hr hh =>
      have hat : E.S.at false r [] = some ((rootAt E.S r).e, (rootAt E.S r).cs) := by
        unfold Store.at rootAt at *
        rw [List.getElem?_eq_getElem hr] at hl ⊢
        simp only [Option.getD_some] at hl ⊢
        rw [if_pos hl]; rfl
      generalize rootAt E.S r = x at *
      obtain ⟨cap, arr', ty', mk', b1, b2, b3, rfl⟩ := hh _ _ hat
      have hat' := Store.at_any hat
      obtain ⟨arr, ty, mk, a1, a2, a3, a4, a5⟩ := h.blk r [] x.e x.cs hat'
      refine .sl (.sl (E.φ r []) off (fun j => arr.getD (off + j) undef) (by rw [List.length_take, List.length_drop]; omega) b2 (.inr ⟨rfl, fz_new h hat'⟩) (fun i c hi => ?_) (fun i c hi => ?_))
      all_goals
        have hi' : x.cs[off + i]? = some c := by
          rw [List.getElem?_take] at hi
          split at hi
          · rw [List.getElem?_drop] at hi; exact hi
          · cases hi
        have hlt := (List.getElem?_eq_some_iff.1 hi').1
      · show E.w.cell? _ = _
        rw [cell_of_row _ _ _ _ _ _ a1, Array.getD_eq_getD_getElem?, Array.getElem?_eq_getElem (by omega)]; rfl
      · exact fz_flat (a5 _ c hi') (List.all_eq_true.1 hfl c (List.mem_of_getElem? hi'))
  · exact .dead _

theorem fz_tr (h : Inv E w0) : ∀ (t : T) (v : Value), TR E t v → TR (E.fz r) (fzT (rootAt E.S r) r t) v
  | .v x, v, ht => by cases ht; exact .v _
  | .sl false k n e cs, v, ht => by
    cases ht with
    | sl hz => exact .sl (hz.evo fun b hb => ⟨fz_okz hb, rfl⟩)
  | .sl true k n e cs, v, ht => by cases ht
  | .ref r' p off n, v, ht => by
    simp only [fzT]
    split
    · rename_i hr
      subst hr
      cases p with
      | nil => exact fz_ref h ht
      | cons => exact .dead _
    · rename_i hne
      cases ht with
      | ref hr hh =>
        refine .ref (by rw [fz_len]; exact hr) fun e cs hx => ?_
        obtain ⟨_, x1, h1, h2⟩ := fz_at_of hx
        simp only [Prod.mk.injEq] at h2
        obtain ⟨rfl, rfl⟩ := h2
        exact hh x1.1 x1.2 h1
  | .ptr r' p off, v, ht => by
    simp only [fzT]
    split
    · exact .dead _
    · cases ht with
      | ptr hr hh =>
        refine .ptr (by rw [fz_len]; exact hr) fun x hx => ?_
        obtain ⟨_, x1, h1, h2⟩ := fz_at_of hx
        exact hh x1 h1
  | .pz k cs off, v, ht => by
    cases ht with
    | pz f hok hcell hrec => exact .pz f (fz_okz hok) hcell (fun j c hj => (hrec j c hj).evo fun b hb => ⟨fz_okz hb, rfl⟩)
  | .agg cs, v, ht => by
    cases ht with
    | agg hs hh =>
      rw [fzT, fzTs_map]
      refine .agg (by rw [List.length_map]; exact hs) fun i t hi => ?_
      rw [List.getElem?_map] at hi
      obtain ⟨c, hc, rfl⟩ := Option.map_eq_some_iff.1 hi
      exact fz_tr h c _ (hh i c hc)
  | .tup cs, v, ht => by
    cases ht with
    | tup hs hh =>
      rw [fzT, fzTs_map]
      refine .tup (by rw [List.length_map]; exact hs) fun i t hi => ?_
      rw [List.getElem?_map] at hi
      obtain ⟨c, hc, rfl⟩ := Option.map_eq_some_iff.1 hi
      exact fz_tr h c _ (hh i c hc)
  | .clo f cs, v, ht => by
    cases ht with
    | clo hs hh =>
      rw [fzT, fzTs_map]
      refine .clo (by rw [List.length_map]; exact hs) fun i t hi => ?_
      rw [List.getElem?_map] at hi
      obtain ⟨c, hc, rfl⟩ := Option.map_eq_some_iff.1 hi
      exact fz_tr h c _ (hh i c hc)
  | .dead, v, _ => .dead _
termination_by t => SizeOf.sizeOf t
decreasing_by
  all_goals
    have h1 := List.mem_of_getElem? hc
    have h2 := List.sizeOf_lt_of_mem h1
    simp only [T.agg.sizeOf_spec, T.tup.sizeOf_spec, T.clo.sizeOf_spec]
    omega

theorem fz_shape (x : Root) (r r' : Nat) (p : List Nat) (off n : Nat) : (∃ k m e cs, fzT x r (.ref r' p off n) = .sl false k m e cs) ∨ fzT x r (.ref r' p off n) = .dead ∨ fzT x r (.ref r' p off n) = .ref r' p off n := by
  by_cases hr : r' = r
  · cases p with
    | nil =>
      by_cases hc2 : x.live = true ∧ off + n * x.e ≤ x.cs.length ∧ x.cs.all flatC = true
      · exact .inl ⟨0, n, x.e, (x.cs.drop off).take (n * x.e), by simp only [fzT, if_pos hr, fzRef, if_pos hc2]⟩
      · exact .inr (.inl (by simp only [fzT, if_pos hr, fzRef, if_neg hc2]))
    | cons => exact .inr (.inl (by simp only [fzT, if_pos hr]))
  · exact .inr (.inr (by simp only [fzT, if_neg hr]))

theorem fz_cr {E' : Env} {i : Nat} {p : List Nat} {j : Nat} {t : T} {v : Value} (ht : TR E' t v) (hv : v.oneCell' = true) {r' : Nat} {p' : List Nat} {off n : Nat} (hs : (∃ k m e cs, t = .sl false k m e cs) ∨ t = .dead ∨ t = .ref r' p' off n) : CR E' i p j t v := by
  rcases hs with ⟨_, _, _, _, rfl⟩ | rfl | rfl
  · cases ht with
    | sl hz => exact .fz hz
  · exact .dead _ hv
  · exact .ref hv ht

theorem fz_inv (h : Inv E w0) : Inv (E.fz r) w0 := by
  refine ⟨h.below, h.hB, h.hN, fun i p e cs hx => ?_, fun i p x i' p' x' hx hx' hb => ?_, fun i p x hx hlt => ?_⟩
  · obtain ⟨h1, x1, h2, h3⟩ := fz_at_of hx
    simp only [Prod.mk.injEq] at h3
    obtain ⟨rfl, rfl⟩ := h3
    obtain ⟨arr, ty, mk, a1, a2, a3, a4, a5⟩ := h.blk i p x1.1 x1.2 h2
    refine ⟨arr, ty, mk, a1, by rw [fzTs_length]; exact a2, a3, a4, fun j c hc => ?_⟩
    rw [fzTs_map, List.getElem?_map] at hc
    obtain ⟨c1, hc1, rfl⟩ := Option.map_eq_some_iff.1 hc
    have hcr := a5 j c1 hc1
    cases hcr with
    | v _ hv => exact .v _ hv
    | fz hz => exact .fz (hz.evo fun b hb => ⟨fz_okz hb, rfl⟩)
    | own hn hv => exact .own (by rw [fzTs_length]; exact hn) hv
    | ref hv ht =>
      exact fz_cr (fz_tr (r := r) h _ _ ht) hv (fz_shape _ _ _ _ _ _)
    | dead _ hv => exact .dead _ hv
  · obtain ⟨_, x1, h1, _⟩ := fz_at_of hx
    obtain ⟨_, x2, h2, _⟩ := fz_at_of hx'
    exact h.inj _ _ _ _ _ _ h1 h2 hb
  · obtain ⟨_, x1, h1, _⟩ := fz_at_of hx
    exact h.frz _ _ _ h1 hlt

theorem fz_evo {E0 : Env} (ev : Evo E0 E) : Evo E0 (E.fz r) := by
  refine ⟨ev.B, ev.N, ev.K, by rw [fz_len]; exact ev.len, fun k b hb => ⟨fz_okz (ev.fz k b hb).1, (ev.fz k b hb).2⟩, fun r' p e cs' hr hx => ?_⟩
  obtain ⟨_, x1, h1, h3⟩ := fz_at_of hx
  simp only [Prod.mk.injEq] at h3
  obtain ⟨rfl, rfl⟩ := h3
  exact ev.node r' p x1.1 x1.2 hr h1

end

/-! ### A row that may be nil where it is empty -/
def sealRef (x : Root) (r off n : Nat) : T := if x.live = true ∧ x.cs.isEmpty = true then (if n = 0 then .sl false 0 0 x.e [] else .dead) else .ref r [] off n

mutual
def sealT (x : Root) (r : Nat) : T → T
  | .sl true k n e cs => .sl true k n e (sealTs x r cs)
  | .ref r' p off n => if r' = r then (match p with | [] => sealRef x r off n | _ => .ref r' p off n) else .ref r' p off n
  | .agg cs => .agg (sealTs x r cs)
  | .tup cs => .tup (sealTs x r cs)
  | .clo f cs => .clo f (sealTs x r cs)
  | t => t
def sealTs (x : Root) (r : Nat) : List T → List T
  | [] => []
  | c :: cs => sealT x r c :: sealTs x r cs
end

theorem sealTs_map (x : Root) (r : Nat) : ∀ cs : List T, sealTs x r cs = cs.map (sealT x r)
  | [] => rfl
  | c :: cs => by rw [sealTs, sealTs_map x r cs]; rfl
theorem sealTs_length (x : Root) (r : Nat) (cs : List T) : (sealTs x r cs).length = cs.length := by rw [sealTs_map, List.length_map]
theorem sealRef_cases (x : Root) (r off n : Nat) : (x.live = true ∧ x.cs.isEmpty = true ∧ n = 0 ∧ sealRef x r off n = .sl false 0 0 x.e []) ∨ sealRef x r off n = .dead ∨ sealRef x r off n = .ref r [] off n := by
  unfold sealRef
  split
  · rename_i h
    split
    · rename_i hn; exact .inl ⟨h.1, h.2, hn, rfl⟩
    · exact .inr (.inl rfl)
  · exact .inr (.inr rfl)
theorem cellsAt_sealTs (x : Root) (r : Nat) (any : Bool) : ∀ (p : List Nat) (e : Nat) (cs : List T), cellsAt any e (sealTs x r cs) p = (cellsAt any e cs p).map fun y => (y.1, sealTs x r y.2)
  | [], e, cs => rfl
  | c :: p, e, cs => by
    unfold cellsAt
    rw [sealTs_map, List.getElem?_map]
    cases hc : cs[c]? with
    | none => rfl
    | some t =>
      cases t with
      | sl own k n e' cs' =>
        cases own with
        | false => rfl
        | true =>
          simp only [Option.map_some, sealT]
          split
          · exact cellsAt_sealTs x r any p e' cs'
          · rfl
      | ref r' p' off n =>
        simp only [Option.map_some, sealT]
        by_cases hr : r' = r
        · simp only [if_pos hr]
          cases p' with
          | nil => rcases sealRef_cases x r off n with ⟨_, _, _, h⟩ | h | h <;> simp only [h] <;> rfl
          | cons => rfl
        · simp only [if_neg hr]; rfl
      | _ => rfl
def sealS (r : Nat) (S : Store) : Store := (S.set r ⟨(rootAt S r).e, (rootAt S r).live && !(rootAt S r).cs.isEmpty, (rootAt S r).cs⟩).map fun y => ⟨y.e, y.live, sealTs (rootAt S r) r y.cs⟩
theorem sealS_length (r : Nat) (S : Store) : (sealS r S).length = S.length := by simp [sealS]
theorem seal_at {any : Bool} {S : Store} {r r' : Nat} {p : List Nat} {x : Nat × List T} (h : (sealS r S).at any r' p = some x) : (r' = r → (rootAt S r).cs.isEmpty = false) ∧ ∃ x1, S.at any r' p = some x1 ∧ x = (x1.1, sealTs (rootAt S r) r x1.2) := by
  unfold Store.at sealS at h
  rw [List.getElem?_map, List.getElem?_set] at h
  by_cases hr : r = r'
  · subst hr
    simp only [if_true] at h
    split at h
    case h_2 => cases h
    rename_i y hy
    split at hy
    case isFalse => cases hy
    rename_i hlt
    simp only [Option.map_some, Option.some.injEq] at hy
    subst hy
    split at h
    case isFalse => cases h
    rename_i hl
    simp only [Bool.and_eq_true, Bool.not_eq_true', Bool.not_eq_eq_eq_not, Bool.not_true] at hl
    dsimp only at h
    rw [cellsAt_sealTs] at h
    obtain ⟨x1, h1, rfl⟩ := Option.map_eq_some_iff.1 h
    exact ⟨fun _ => hl.2, x1, root_at hl.1 h1, rfl⟩
  · rw [if_neg hr] at h
    unfold Store.at
    cases hs : S[r']? with
    | none => rw [hs] at h; simp at h
    | some y =>
      rw [hs] at h
      simp only [Option.map_some] at h
      simp only
      split at h
      · rename_i hl
        simp only [hl, if_true]
        rw [cellsAt_sealTs] at h
        obtain ⟨x1, h1, rfl⟩ := Option.map_eq_some_iff.1 h
        exact ⟨fun e => absurd e.symm hr, x1, h1, rfl⟩
      · cases h

def Env.sealR (E : Env) (r : Nat) : Env := { E with S := sealS r E.S }
section
variable {E : Env} {w0 : World} {r : Nat}
theorem seal_okz {k b : Nat} (h : E.okz k b) : (E.sealR r).okz k b := ⟨h.1, fun ⟨r', p, x, hx, hb⟩ => by
  obtain ⟨_, x1, h1, _⟩ := seal_at hx
  exact h.2.1 ⟨r', p, x1, h1, hb⟩, h.2.2⟩
theorem seal_ref {off n r' : Nat} {p : List Nat} {v : Value} (ht : TR E (.ref r' p off n) v) : TR (E.sealR r) (.ref r' p off n) v := by
  cases ht with
  | ref hr hh =>
    refine .ref (by show _ < (sealS r E.S).length; rw [sealS_length]; exact hr) fun e cs hx => ?_
    obtain ⟨_, x1, h1, h2⟩ := seal_at hx
    simp only [Prod.mk.injEq] at h2
    obtain ⟨rfl, rfl⟩ := h2
    exact hh x1.1 x1.2 h1
theorem seal_ref' {off n : Nat} {v : Value} (ht : TR E (.ref r [] off n) v) : TR (E.sealR r) (sealRef (rootAt E.S r) r off n) v := by
  rcases sealRef_cases (rootAt E.S r) r off n with ⟨h1, h2, rfl, h⟩ | h | h
  · rw [h]
    cases ht with
    | ref hr hh =>
      obtain ⟨cap, _, _, _, _, _, _, rfl⟩ := hh (rootAt E.S r).e (rootAt E.S r).cs (root_at h1 rfl)
      exact .sl (.sl 0 0 (fun _ => undef) (by simp) (Nat.zero_le _) (.inl rfl) (fun j c h => by simp at h) (fun j c h => by simp at h))
  · rw [h]; exact .dead _
  · rw [h]; exact seal_ref ht
theorem seal_tr : ∀ (t : T) (v : Value), TR E t v → TR (E.sealR r) (sealT (rootAt E.S r) r t) v
  | .v x, v, ht => by cases ht; exact .v _
  | .sl false k n e cs, v, ht => by
    cases ht with
    | sl hz => exact .sl (hz.evo fun b hb => ⟨seal_okz hb, rfl⟩)
  | .sl true k n e cs, v, ht => by cases ht
  | .ref r' p off n, v, ht => by
    simp only [sealT]
    split
    · rename_i hr
      subst hr
      cases p with
      | nil => exact seal_ref' ht
      | cons => exact seal_ref ht
    · exact seal_ref ht
  | .ptr r' p off, v, ht => by
    cases ht with
    | ptr hr hh =>
      refine .ptr (by show _ < (sealS r E.S).length; rw [sealS_length]; exact hr) fun x hx => ?_
      obtain ⟨_, x1, h1, _⟩ := seal_at hx
      exact hh x1 h1
  | .pz k cs off, v, ht => by
    cases ht with
    | pz f hok hcell hrec => exact .pz f (seal_okz hok) hcell (fun j c hj => (hrec j c hj).evo fun b hb => ⟨seal_okz hb, rfl⟩)
  | .agg cs, v, ht => by
    cases ht with
    | agg hs hh =>
      rw [sealT, sealTs_map]
      refine .agg (by rw [List.length_map]; exact hs) fun i t hi => ?_
      rw [List.getElem?_map] at hi
      obtain ⟨c, hc, rfl⟩ := Option.map_eq_some_iff.1 hi
      exact seal_tr c _ (hh i c hc)
  | .tup cs, v, ht => by
    cases ht with
    | tup hs hh =>
      rw [sealT, sealTs_map]
      refine .tup (by rw [List.length_map]; exact hs) fun i t hi => ?_
      rw [List.getElem?_map] at hi
      obtain ⟨c, hc, rfl⟩ := Option.map_eq_some_iff.1 hi
      exact seal_tr c _ (hh i c hc)
  | .clo f cs, v, ht => by
    cases ht with
    | clo hs hh =>
      rw [sealT, sealTs_map]
      refine .clo (by rw [List.length_map]; exact hs) fun i t hi => ?_
      rw [List.getElem?_map] at hi
      obtain ⟨c, hc, rfl⟩ := Option.map_eq_some_iff.1 hi
      exact seal_tr c _ (hh i c hc)
  | .dead, v, _ => .dead _
termination_by t => SizeOf.sizeOf t
decreasing_by
  all_goals
    have h1 := List.mem_of_getElem? hc
    have h2 := List.sizeOf_lt_of_mem h1
    simp only [T.agg.sizeOf_spec, T.tup.sizeOf_spec, T.clo.sizeOf_spec]
    omega
theorem seal_inv (h : Inv E w0) : Inv (E.sealR r) w0 := by
  refine ⟨h.below, h.hB, h.hN, fun i p e cs hx => ?_, fun i p x i' p' x' hx hx' hb => ?_, fun i p x hx hlt => ?_⟩
  · obtain ⟨_, x1, h2, h3⟩ := seal_at hx
    simp only [Prod.mk.injEq] at h3
    obtain ⟨rfl, rfl⟩ := h3
    obtain ⟨arr, ty, mk, a1, a2, a3, a4, a5⟩ := h.blk i p x1.1 x1.2 h2
    refine ⟨arr, ty, mk, a1, by rw [sealTs_length]; exact a2, a3, a4, fun j c hc => ?_⟩
    rw [sealTs_map, List.getElem?_map] at hc
    obtain ⟨c1, hc1, rfl⟩ := Option.map_eq_some_iff.1 hc
    have hcr := a5 j c1 hc1
    have ho := hcr.oneCell
    cases hcr with
    | v _ hv => exact .v _ hv
    | fz hz => exact .fz (hz.evo fun b hb => ⟨seal_okz hb, rfl⟩)
    | own hn hv => exact .own (by rw [sealTs_length]; exact hn) hv
    | ref hv ht =>
      rename_i r' p' off n
      have := seal_tr (r := r) _ _ ht
      by_cases hr : r' = r
      · cases p' with
        | nil =>
          simp only [sealT, if_pos hr] at this ⊢
          rcases sealRef_cases (rootAt E.S r) r off n with ⟨_, _, rfl, h⟩ | h | h <;> rw [h] at this ⊢
          · cases this with | sl hz => exact .fz hz
          · exact .dead _ ho
          · exact .ref hv this
        | cons => simp only [sealT, if_pos hr] at this ⊢; exact .ref hv this
      · simp only [sealT, if_neg hr] at this ⊢; exact .ref hv this
    | dead _ hv => exact .dead _ hv
  · obtain ⟨_, x1, h1, _⟩ := seal_at hx
    obtain ⟨_, x2, h2, _⟩ := seal_at hx'
    exact h.inj _ _ _ _ _ _ h1 h2 hb
  · obtain ⟨_, x1, h1, _⟩ := seal_at hx
    exact h.frz _ _ _ h1 hlt
theorem seal_evo {E0 : Env} (ev : Evo E0 E) : Evo E0 (E.sealR r) := by
  refine ⟨ev.B, ev.N, ev.K, by show _ ≤ (sealS r E.S).length; rw [sealS_length]; exact ev.len, fun k b hb => ⟨seal_okz (ev.fz k b hb).1, (ev.fz k b hb).2⟩, fun r' p e cs' hr hx => ?_⟩
  obtain ⟨_, x1, h1, h3⟩ := seal_at hx
  simp only [Prod.mk.injEq] at h3
  obtain ⟨rfl, rfl⟩ := h3
  exact ev.node r' p x1.1 x1.2 hr h1
end

/-- Several roots frozen, one behind the other. -/
inductive Gh where
  | fz (r : Nat)
  | nest (r : Nat) (p : List Nat) (j q : Nat)
  | nestP (r : Nat) (p : List Nat) (j q : Nat)
  | out (r : Nat) (p : List Nat) (j : Nat)
  | sealR (r : Nat)
instance Gh.lit (n : Nat) : OfNat Gh n := ⟨.fz n⟩
def ghS : Gh → Store → Store
  | .fz r, S => fzS r S
  | .nest r p j q, S => nestS false r p j q S
  | .nestP r p j q, S => nestS true r p j q S
  | .out r p j, S => outS r p j S
  | .sealR r, S => sealS r S
def ghT : Gh → Store → T → T
  | .fz r, S, t => fzT (rootAt S r) r t
  | .nest r p j q, S, t => reT (nestF r p j q S.length) t
  | .nestP r p j q, S, t => reT (nestF r p j q S.length) t
  | .out r p j, S, t => reT (outF r p j S.length) t
  | .sealR r, S, t => sealT (rootAt S r) r t
/-- How many roots come to it. -/
def ghN : List Gh → Nat
  | [] => 0
  | .fz _ :: l => ghN l
  | .sealR _ :: l => ghN l
  | _ :: l => ghN l + 1
def fzAllS : List Gh → Store → Store
  | [], S => S
  | g :: l, S => fzAllS l (ghS g S)
def fzAllT : List Gh → Store → T → T
  | [], _, t => t
  | g :: l, S, t => fzAllT l (ghS g S) (ghT g S t)

theorem fzAll_env {w0 : World} {E0 : Env} : ∀ (l : List Gh) (E : Env), Inv E w0 → Evo E0 E → ∃ E2, E2.w = E.w ∧ E2.S = fzAllS l E.S ∧ Inv E2 w0 ∧ Evo E0 E2 ∧ (∀ t v, TR E t v → TR E2 (fzAllT l E.S t) v)
  | [], E, h, ev => ⟨E, rfl, rfl, h, ev, fun _ _ ht => ht⟩
  | .fz r :: l, E, h, ev => by
    obtain ⟨E2, h1, h2, h3, h4, h5⟩ := fzAll_env l (E.fz r) (fz_inv h) (fz_evo ev)
    exact ⟨E2, h1, h2, h3, h4, fun t v ht => h5 _ _ (fz_tr h t v ht)⟩
  | .nest r p j q :: l, E, h, ev => by
    obtain ⟨E1, k1, k2, k3, k4, k5⟩ := nest_env h ev false r p j q
    obtain ⟨E2, h1, h2, h3, h4, h5⟩ := fzAll_env l E1 k3 k4
    rw [k2] at h2 h5
    exact ⟨E2, h1.trans k1, h2, h3, h4, fun t v ht => h5 _ _ (k5 t v ht)⟩
  | .nestP r p j q :: l, E, h, ev => by
    obtain ⟨E1, k1, k2, k3, k4, k5⟩ := nest_env h ev true r p j q
    obtain ⟨E2, h1, h2, h3, h4, h5⟩ := fzAll_env l E1 k3 k4
    rw [k2] at h2 h5
    exact ⟨E2, h1.trans k1, h2, h3, h4, fun t v ht => h5 _ _ (k5 t v ht)⟩
  | .sealR r :: l, E, h, ev => by
    obtain ⟨E2, h1, h2, h3, h4, h5⟩ := fzAll_env l (E.sealR r) (seal_inv h) (seal_evo ev)
    exact ⟨E2, h1, h2, h3, h4, fun t v ht => h5 _ _ (seal_tr t v ht)⟩
  | .out r p j :: l, E, h, ev => by
    obtain ⟨E1, k1, k2, k3, k4, k5⟩ := out_env h ev r p j
    obtain ⟨E2, h1, h2, h3, h4, h5⟩ := fzAll_env l E1 k3 k4
    rw [k2] at h2 h5
    exact ⟨E2, h1.trans k1, h2, h3, h4, fun t v ht => h5 _ _ (k5 t v ht)⟩

theorem fzS_length (r : Nat) (S : Store) : (fzS r S).length = S.length := by rw [fzS, List.length_map, Store.kill_length]
theorem fzAllS_length : ∀ (l : List Gh) (S : Store), (fzAllS l S).length = S.length + ghN l
  | [], _ => rfl
  | .fz r :: l, S => by rw [fzAllS, fzAllS_length l]; show (fzS r S).length + _ = _; rw [fzS_length]; rfl
  | .nest r p j q :: l, S => by rw [fzAllS, fzAllS_length l]; show (nestS false r p j q S).length + _ = _; rw [nestS_length]; show _ = _ + (ghN l + 1); omega
  | .nestP r p j q :: l, S => by rw [fzAllS, fzAllS_length l]; show (nestS true r p j q S).length + _ = _; rw [nestS_length]; show _ = _ + (ghN l + 1); omega
  | .sealR r :: l, S => by rw [fzAllS, fzAllS_length l]; show (sealS r S).length + _ = _; rw [sealS_length]; rfl
  | .out r p j :: l, S => by rw [fzAllS, fzAllS_length l]; show (outS r p j S).length + _ = _; rw [outS_length]; show _ = _ + (ghN l + 1); omega

/-- Less said of a value: an empty slice may be nil. -/
inductive Wk : T → T → Prop
  | refl (t : T) : Wk t t
  | nil (k e : Nat) : Wk (.v (.slice none 0 0)) (.sl false k 0 e [])
  | zero (k k' e : Nat) : Wk (.sl true k 0 e []) (.sl false k' 0 e [])
  | dead (t : T) : Wk t .dead
  | agg {ts us : List T} (hl : ts.length = us.length) (h : ∀ (i : Nat) (t u : T), ts[i]? = some t → us[i]? = some u → Wk t u) : Wk (.agg ts) (.agg us)
  | tup {ts us : List T} (hl : ts.length = us.length) (h : ∀ (i : Nat) (t u : T), ts[i]? = some t → us[i]? = some u → Wk t u) : Wk (.tup ts) (.tup us)

inductive Wks : List T → List T → Prop
  | nil : Wks [] []
  | same (ts : List T) : Wks ts ts
  | cons {t u : T} {ts us : List T} (h : Wk t u) (hs : Wks ts us) : Wks (t :: ts) (u :: us)

theorem Wks.at : ∀ {ts us : List T}, Wks ts us → ts.length = us.length ∧ ∀ (i : Nat) (t u : T), ts[i]? = some t → us[i]? = some u → Wk t u
  | _, _, .nil => ⟨rfl, fun i t u h => by simp at h⟩
  | _, _, .same _ => ⟨rfl, fun i t u h k => by rw [h] at k; cases k; exact .refl _⟩
  | _, _, .cons h hs => by
    obtain ⟨h1, h2⟩ := hs.at
    refine ⟨by simp [h1], fun i t u ht hu => ?_⟩
    cases i with
    | zero => simp at ht hu; subst ht; subst hu; exact h
    | succ i => exact h2 i t u (by simpa using ht) (by simpa using hu)
theorem Wk.aggs {ts us : List T} (h : Wks ts us) : Wk (.agg ts) (.agg us) := .agg h.at.1 h.at.2
theorem Wk.tups {ts us : List T} (h : Wks ts us) : Wk (.tup ts) (.tup us) := .tup h.at.1 h.at.2

theorem nil_fz (w : World) (ok : Nat → Prop) (o : Bool) (k e : Nat) : FzR w ok (.sl o k 0 e []) (.slice none 0 0) :=
  .sl 0 0 (fun _ => undef) (by simp) (Nat.le_refl _) (.inl rfl) (fun j c h => by simp at h) (fun j c h => by simp at h)

theorem TR.wk {E : Env} {t u : T} (h : Wk t u) : ∀ {v : Value}, TR E t v → TR E u v := by
  induction h with
  | refl t => exact fun h => h
  | nil k e => intro v h; cases h; exact .sl (nil_fz _ _ _ _ _)
  | zero k k' e => intro v h; cases h
  | dead t => exact fun _ => .dead _
  | agg hl _ ih =>
    intro v h
    cases h with
    | agg hs hh =>
      refine .agg (hs.trans hl) fun i u hu => ?_
      have hlt := (List.getElem?_eq_some_iff.1 hu).1
      have ht := List.getElem?_eq_getElem (hl ▸ hlt)
      exact ih i _ u ht hu (hh i _ ht)
  | tup hl _ ih =>
    intro v h
    cases h with
    | tup hs hh =>
      refine .tup (hs.trans hl) fun i u hu => ?_
      have hlt := (List.getElem?_eq_some_iff.1 hu).1
      have ht := List.getElem?_eq_getElem (hl ▸ hlt)
      exact ih i _ u ht hu (hh i _ ht)

theorem CR.wk {E : Env} {r : Nat} {p : List Nat} {j : Nat} {t u : T} {v : Value} (h : Wk t u) (hc : CR E r p j t v) : CR E r p j u v := by
  cases h with
  | refl => exact hc
  | nil k e => cases hc with | v _ _ => exact .fz (nil_fz _ _ _ _ _)
  | zero k k' e => cases hc with
    | own hn hv =>
      obtain ⟨cap, _, _, _, _, _, _, rfl⟩ := hv
      exact .fz (.sl 0 0 (fun _ => undef) (by simp) (Nat.zero_le _) (.inl rfl) (fun j c h => by simp at h) (fun j c h => by simp at h))
  | dead => exact .dead _ hc.oneCell
  | agg _ _ => cases hc
  | tup _ _ => cases hc

/-- Roots of which less is said. -/
inductive WkS : Store → Store → Prop
  | nil : WkS [] []
  | cons {x y : Root} {S S' : Store} (he : y.live = true → x.e = y.e) (hl : y.live = true → x.live = true) (h : y.live = true → Wks x.cs y.cs) (hs : WkS S S') : WkS (x :: S) (y :: S')

theorem WkS.refl : ∀ (S : Store), WkS S S
  | [] => .nil
  | _ :: S => .cons (fun _ => rfl) (fun h => h) (fun _ => .same _) (WkS.refl S)

theorem WkS.at {S S' : Store} (h : WkS S S') : S.length = S'.length ∧ ∀ (r : Nat) (y : Root), S'[r]? = some y → ∃ x, S[r]? = some x ∧ (y.live = true → x.e = y.e) ∧ (y.live = true → x.live = true) ∧ (y.live = true → Wks x.cs y.cs) := by
  induction h with
  | nil => exact ⟨rfl, fun r y h => by simp at h⟩
  | cons he hl h _ ih =>
    refine ⟨by simp [ih.1], fun r y hy => ?_⟩
    cases r with
    | zero => simp at hy; subst hy; exact ⟨_, rfl, he, hl, h⟩
    | succ r => exact ih.2 r y (by simpa using hy)

theorem wks_cells {any : Bool} : ∀ (p : List Nat) (e : Nat) (ts us : List T) (e' : Nat) (us' : List T), Wks ts us → cellsAt any e us p = some (e', us') → ∃ ts', cellsAt any e ts p = some (e', ts') ∧ Wks ts' us'
  | [], e, ts, us, e', us', h, hx => by
    simp only [cellsAt, Option.some.injEq, Prod.mk.injEq] at hx
    obtain ⟨rfl, rfl⟩ := hx
    exact ⟨ts, rfl, h⟩
  | c :: p, e, ts, us, e', us', h, hx => by
    unfold cellsAt at hx ⊢
    split at hx
    · rename_i k n e1 cs1 hc
      have hlt := (List.getElem?_eq_some_iff.1 hc).1
      obtain ⟨t, ht⟩ : ∃ t, ts[c]? = some t := ⟨_, List.getElem?_eq_getElem (h.at.1 ▸ hlt)⟩
      have hw := h.at.2 c t _ ht hc
      cases hw with
      | refl =>
        rw [ht]
        simp only
        split at hx
        · rename_i hk
          rw [if_pos hk]
          exact ⟨us', hx, .same _⟩
        · cases hx
    · cases hx

theorem WkS.node {S S' : Store} (h : WkS S S') {any : Bool} {r : Nat} {p : List Nat} {e : Nat} {cs : List T} (hx : S'.at any r p = some (e, cs)) : ∃ cs0, S.at any r p = some (e, cs0) ∧ Wks cs0 cs := by
  unfold Store.at at hx ⊢
  cases hy : S'[r]? with
  | none => rw [hy] at hx; cases hx
  | some y =>
    rw [hy] at hx
    simp only at hx
    split at hx
    · rename_i hl
      obtain ⟨x, h1, h2, h3, h4⟩ := h.at.2 r y hy
      rw [h1]
      simp only [h3 hl, if_true]
      rw [h2 hl]
      exact wks_cells p _ _ _ _ _ (h4 hl) hx
    · cases hx

theorem wk_env {E E0 : Env} {w0 : World} (h : Inv E w0) (ev : Evo E0 E) {S' : Store} (hw : WkS E.S S') : Inv { E with S := S' } w0 ∧ Evo E0 { E with S := S' } ∧ ∀ t v, TR E t v → TR { E with S := S' } t v := by
  have hown : ∀ b, ({ E with S := S' } : Env).own b → E.own b := by
    rintro b ⟨r, p, x, hx, hb⟩
    obtain ⟨cs0, h1, _⟩ := hw.node (e := x.1) (cs := x.2) hx
    exact ⟨r, p, _, h1, hb⟩
  have hok : ∀ k b, E.okz k b → ({ E with S := S' } : Env).okz k b := fun k b hb => ⟨hb.1, fun ho => hb.2.1 (hown b ho), hb.2.2⟩
  have e1 : Evo E { E with S := S' } := ⟨rfl, rfl, rfl, by simp [hw.at.1], fun k b hb => ⟨hok k b hb, rfl⟩, fun r p e cs' hr hx => by
    obtain ⟨cs0, h1, _⟩ := hw.node hx
    exact ⟨⟨cs0, h1⟩, rfl, fun arr ty mk ha => ⟨arr, ha, rfl⟩⟩⟩
  refine ⟨⟨h.below, h.hB, h.hN, fun r p e cs hx => ?_, fun r p x r' p' x' hx hx' hb => ?_, fun r p x hx hlt => ?_⟩, ev.trans e1, fun t v ht => ht.evo e1⟩
  · obtain ⟨cs0, h1, h2⟩ := hw.node hx
    obtain ⟨arr, ty, mk, a1, a2, a3, a4, a5⟩ := h.blk r p e cs0 h1
    refine ⟨arr, ty, mk, a1, by rw [← h2.at.1]; exact a2, a3, a4, fun j c hc => ?_⟩
    have hlt := (List.getElem?_eq_some_iff.1 hc).1
    obtain ⟨t, ht⟩ : ∃ t, cs0[j]? = some t := ⟨_, List.getElem?_eq_getElem (h2.at.1 ▸ hlt)⟩
    exact ((a5 j t ht).evo e1 (Sized.refl _) (fun _ _ _ _ _ => rfl)).wk (h2.at.2 j t c ht hc)
  · obtain ⟨c1, h1, _⟩ := hw.node (e := x.1) (cs := x.2) hx
    obtain ⟨c2, h2, _⟩ := hw.node (e := x'.1) (cs := x'.2) hx'
    exact h.inj _ _ _ _ _ _ h1 h2 hb
  · obtain ⟨c1, h1, _⟩ := hw.node (e := x.1) (cs := x.2) hx
    exact h.frz _ _ _ h1 hlt

/-- Roots frozen, fewer roots, and less said of the variables and roots. -/
structure Gc (M : Nat) (S : Store) (fr : Nat → T) (S2 : Store) (fr2 : Nat → T) (keep : List Nat) (fz : List Gh) : Prop where
  nodup : keep.Nodup
  lt : ∀ r ∈ keep, r < S.length + ghN fz
  first : ∀ i, i < M → keep[i]? = some i
  store : WkS (gcS keep (fzAllS fz S)) S2
  frame : ∀ t, Wk (gcT keep (fzAllT fz S (fr t))) (fr2 t)

theorem Gc.frees {E : Env} {M n : Nat} {fr fr2 : Nat → T} {S2 : Store} {keep : List Nat} {fz : List Gh} (hg : Gc M E.S fr S2 fr2 keep fz) {w0 : World} (h : Inv E w0) {E0 : Env} (hM : E0.S.length = M) (ev : Evo E0 E) {a : Act} (hf : FR E n fr a) :
    ∃ E2, E2.w = E.w ∧ E2.S = S2 ∧ Inv E2 w0 ∧ Evo E0 E2 ∧ FR E2 n fr2 a ∧ (∀ t v, TR E t v → TR E2 (gcT keep (fzAllT fz E.S t)) v) := by
  obtain ⟨E1, h1, h2, h3, h4, h5⟩ := fzAll_env fz E h ev
  have hlt : ∀ r ∈ keep, r < E1.S.length := by rw [h2, fzAllS_length]; exact hg.lt
  have hst : WkS (E1.gc keep).S S2 := by
    have := hg.store
    rw [← h2] at this
    exact this
  obtain ⟨k1, k2, k3⟩ := wk_env (gc_inv h3 hlt hg.nodup) (gc_evo h4 hlt (by rw [hM]; exact hg.first)) hst
  exact ⟨{ E1.gc keep with S := S2 }, h1, rfl, k1, k2, ⟨hf.size, fun t => (k3 _ _ (gc_tr hlt _ _ (h5 _ _ (hf.tr t)))).wk (hg.frame t)⟩, fun t v ht => k3 _ _ (gc_tr hlt _ _ (h5 t v ht))⟩

end Go.TL

/- What code comes to on trees, and that the model's runs come to just that. No conditions. -/
namespace Go.TL
set_option linter.unusedSimpArgs false
open Go.RowKit

/-- A call on trees: whatever the world, if the roots say what they say and the arguments are as told, the call returns, the result is as told, the roots behind it are as told. -/
structure CallsT (P : Program) (S : Store) (g : FuncId) (args : List T) (res : T) (S' : Store) : Prop where
  fn : ∃ fn, P.funcs[g]? = some fn ∧ fn.body.isSome = true ∧ (fn.name == "runtime.NumGoroutine") = false
  run : ∀ (E : Env) (w0 : World) (vals : Array Value), E.S = S → Inv E w0 → vals.size = args.length → (∀ i t, args[i]? = some t → TR E t (vals.getD i undef)) →
    Calls P g vals E.w (fun e w' => ∃ v E', e = .returned v ∧ E'.w = w' ∧ E'.S = S' ∧ Inv E' w0 ∧ Evo E E' ∧ TR E' res v)

def calleeT (fr : Nat → T) (o : Oper) : Option (FuncId × List T) :=
  match o.op with
  | .call c => match c.callee with
    | .value f => match ev fr f with
      | .v (.func fn first caps) => match fn with
        | .func g => if first.toList.isEmpty && caps.toList.isEmpty then some (g, c.args.toList.map (ev fr)) else none
        | _ => none
      | .clo g ts => some (g, c.args.toList.map (ev fr) ++ ts)
      | _ => none
    | _ => none
  | _ => none

def wantedT (ops : Array Oper) (fr : Nat → T) (o : Oper) : Option Bool :=
  match o.guard with
  | none => some true
  | some (j, want) => match (ops[j]?).bind (·.dst) with
    | some d => match fr d with
      | .v (.bool b) => some (b == want)
      | .v (.tuple _) => some false
      | _ => none
    | none => some false

/-- What an operation comes to: done, called, or passed over. -/
def opT (P : Program) (ops : Array Oper) (n : Nat) (fr : Nat → T) (S : Store) (o : Oper) (t : T) (S' : Store) : Prop :=
  match wantedT ops fr o with
  | some true => okDst n o.dst = true ∧ (match calleeT fr o with
    | some (g, args) => CallsT P S g args t S'
    | none => stepT P S fr o = some (t, S'))
  | some false => okDst n o.dst = true ∧ t = .v undef ∧ S' = S
  | none => False

/-- Operations whose answer does not hang on the roots. -/
def freeOp (o : Oper) : Bool :=
  match o.op with
  | .move _ | .assign _ | .pick _ _ _ | .binOp _ _ _ _ _ | .unOp _ _ _ | .makeFunc _ _ _ | .field _ _ _ | .index _ _ _ | .extract _ _ => true
  | _ => false

/-- Does operation i come behind j in every order? -/
def bitT (ops : Array Oper) (i j : Nat) : Bool := ((Region.before ops).getD i 0).testBit j

/-- What was listed of a region whose order is drawn: the roots ahead of each operation that changed them; the operations that left them. -/
inductive Dr where
  | txt
  | any (i : Nat) (past : List (Nat × Store)) (pend : List (Nat × (Nat → T) × Oper × T))

def pastOk (P : Program) (ops : Array Oper) (n i : Nat) (fr : Nat → T) (o : Oper) (t : T) : List (Nat × Store) → Prop
  | [] => True
  | x :: l => (bitT ops i x.1 = true ∨ opT P ops n fr x.2 o t x.2) ∧ pastOk P ops n i fr o t l
def behindOk (ops : Array Oper) (i : Nat) : List (Nat × Store) → Prop
  | [] => True
  | x :: l => bitT ops i x.1 = true ∧ behindOk ops i l
def pendOk (P : Program) (ops : Array Oper) (n i : Nat) (S' : Store) : List (Nat × (Nat → T) × Oper × T) → Prop
  | [] => True
  | x :: l => (bitT ops i x.1 = true ∨ opT P ops n x.2.1 S' x.2.2.1 x.2.2.2 S') ∧ pendOk P ops n i S' l

inductive Dr.step (P : Program) (ops : Array Oper) (n : Nat) : Dr → (Nat → T) → Store → Oper → T → Store → Dr → Prop
  | txt {fr : Nat → T} {S : Store} {o : Oper} {t : T} {S' : Store} : Dr.step P ops n .txt fr S o t S' .txt
  | free {i : Nat} {past : List (Nat × Store)} {pend : List (Nat × (Nat → T) × Oper × T)} {fr : Nat → T} {S : Store} {o : Oper} {t : T} (h : freeOp o = true) : Dr.step P ops n (.any i past pend) fr S o t S (.any (i + 1) past pend)
  | skip {i : Nat} {past : List (Nat × Store)} {pend : List (Nat × (Nat → T) × Oper × T)} {fr : Nat → T} {S : Store} {o : Oper} {t : T} (h : wantedT ops fr o = some false) : Dr.step P ops n (.any i past pend) fr S o t S (.any (i + 1) past pend)
  | still {i : Nat} {past : List (Nat × Store)} {pend : List (Nat × (Nat → T) × Oper × T)} {fr : Nat → T} {S : Store} {o : Oper} {t : T} (h : pastOk P ops n i fr o t past) : Dr.step P ops n (.any i past pend) fr S o t S (.any (i + 1) past ((i, fr, o, t) :: pend))
  | chain {i : Nat} {past : List (Nat × Store)} {pend : List (Nat × (Nat → T) × Oper × T)} {fr : Nat → T} {S : Store} {o : Oper} {t : T} {S' : Store} (h : behindOk ops i past) (k : pendOk P ops n i S' pend) : Dr.step P ops n (.any i past pend) fr S o t S' (.any (i + 1) ((i, S) :: past) pend)

def wpOpsT (P : Program) (ops : Array Oper) (n : Nat) : Dr → List Oper → ((Nat → T) → Store → Prop) → (Nat → T) → Store → Prop
  | _, [], K, fr, S => K fr S
  | pu, o :: rest, K, fr, S => ∃ t S' pu', opT P ops n fr S o t S' ∧ Dr.step P ops n pu fr S o t S' pu' ∧ wpOpsT P ops n pu' rest K (put fr o.dst t) S'

inductive Ex where
  | normal
  | exit (id : Nat)
  | ret

def Ex.to : Ex → Exit
  | .normal => .normal
  | .exit i => .exit i
  | .ret => .ret

def Ex.seq (next : (Nat → T) → Store → Prop) (Q : Ex → (Nat → T) → Store → Prop) : Ex → (Nat → T) → Store → Prop
  | .normal => next
  | .exit i => Q (.exit i)
  | .ret => Q .ret

def Ex.block (id : Nat) (Q : Ex → (Nat → T) → Store → Prop) : Ex → (Nat → T) → Store → Prop
  | .normal => Q .normal
  | .exit i => if i = id then Q .normal else Q (.exit i)
  | .ret => Q .ret

/-- What is known behind code. -/
def Post (E : Env) (w0 : World) (n : Nat) (d : List Deferred) (Q : Ex → (Nat → T) → Store → Prop) (e : Exit) (a' : Act) (w' : World) : Prop :=
  ∃ ex fr' E', e = ex.to ∧ Q ex fr' E'.S ∧ E'.w = w' ∧ Inv E' w0 ∧ Evo E E' ∧ FR E' n fr' a' ∧ a'.defers = d

/-- From this frame and these roots code comes to what is said. The first M roots keep their numbers. -/
def W (P : Program) (M n : Nat) (c : Code) (Q : Ex → (Nat → T) → Store → Prop) (fr : Nat → T) (S : Store) : Prop :=
  ∀ (E : Env) (a : Act) (E0 : Env) (w0 : World), E0.S.length = M → E.S = S → Evo E0 E → Inv E w0 → FR E n fr a → c.wp P (Post E0 w0 n a.defers Q) a E.w

/-- An invariant with a number that falls; what is left over may be dropped at each turn. -/
def LoopT (M : Nat) (B : (Ex → (Nat → T) → Store → Prop) → (Nat → T) → Store → Prop) (Q : Ex → (Nat → T) → Store → Prop) (fr : Nat → T) (S : Store) : Prop :=
  ∃ (I : Nat → (Nat → T) → Store → Prop) (k : Nat) (fr0 : Nat → T) (S0 : Store) (keep : List Nat) (fz : List Gh), Gc M S fr S0 fr0 keep fz ∧ I k fr0 S0 ∧
    ∀ k fr S, I k fr S → B (Ex.seq (fun fr' S' => ∃ m fr2 S2 keep fz, Gc M S' fr' S2 fr2 keep fz ∧ m < k ∧ I m fr2 S2) Q) fr S

def wpT (P : Program) (M n : Nat) (c : Code) (Q : Ex → (Nat → T) → Store → Prop) (fr : Nat → T) (S : Store) : Prop := W P M n c Q fr S

theorem Act.put_defers (a : Act) (d : Option Tmp) (v : Value) : (a.put d v).defers = a.defers := by cases d <;> rfl

theorem callee_run {P : Program} {fr : Nat → T} {o : Oper} {g : FuncId} {args : List T} (h : calleeT fr o = some (g, args)) {E : Env} {n : Nat} {a : Act} (hf : FR E n fr a)
    (hfn : ∃ fn, P.funcs[g]? = some fn ∧ fn.body.isSome = true ∧ (fn.name == "runtime.NumGoroutine") = false) (w : World) :
    ∃ vals : Array Value, (execOp a.eval o).run P w = .ok (.enter g vals) w ∧ vals.size = args.length ∧ ∀ i t, args[i]? = some t → TR E t (vals.getD i undef) := by
  obtain ⟨fn, hf1, hf2, hf3⟩ := hfn
  have hcall : ∀ vals, (callFunc g vals).run P w = .ok (.enter g vals) w := by
    intro vals
    have hnn : fn.body ≠ none := by intro hb; rw [hb] at hf2; cases hf2
    have hn3 : fn.name ≠ "runtime.NumGoroutine" := by intro hb; rw [hb] at hf3; simp at hf3
    simp [callFunc, hf1, hn3, hnn]
  have hargs : ∀ (xs : Array Operand) (i : Nat) (t : T), (xs.toList.map (ev fr))[i]? = some t → i < xs.size ∧ TR E t ((xs.map a.eval).getD i undef) := by
    intro xs i t ht
    rw [List.getElem?_map] at ht
    obtain ⟨x, hx, rfl⟩ := Option.map_eq_some_iff.1 ht
    rw [Array.getElem?_toList] at hx
    refine ⟨(Array.getElem?_eq_some_iff.1 hx).1, ?_⟩
    rw [Array.getD_eq_getD_getElem?, Array.getElem?_map, hx]
    exact hf.ev x
  unfold calleeT at h
  split at h
  case h_2 => cases h
  rename_i c ho
  split at h
  case h_2 => cases h
  rename_i f hc
  split at h
  · rename_i fn' first caps hev
    split at h
    case h_2 => cases h
    rename_i g'
    split at h
    case isFalse => cases h
    rename_i hem
    simp only [Bool.and_eq_true] at hem
    cases h
    have e1 : first = #[] := by cases first; simp_all
    have e2 : caps = #[] := by cases caps; simp_all
    subst e1
    subst e2
    have hv := (hf.ev f).toV _ _ (.func (.func g) #[] #[]) (by rw [hev]; rfl)
    refine ⟨c.args.map a.eval, ?_, by simp, fun i t ht => (hargs c.args i t ht).2⟩
    simp only [execOp, ho, resolve, hc, hv, Deferred.ofValue, Sem.run_bind, Sem.run_pure, Result.andThen_ok, invoke]
    simp [hcall]
  · rename_i g' ts hev
    cases h
    have hx := hf.ev f
    rw [hev] at hx
    generalize hval : a.eval f = val at hx
    cases hx with
    | clo hs hh =>
      rename_i vs
      refine ⟨c.args.map a.eval ++ vs, ?_, by simp [hs], fun i t ht => ?_⟩
      · simp only [execOp, ho, resolve, hc, hval, Deferred.ofValue, Sem.run_bind, Sem.run_pure, Result.andThen_ok, invoke]
        simp [hcall]
      · rcases Nat.lt_or_ge i c.args.size with hi | hi
        · rw [List.getElem?_append_left (by simpa using hi)] at ht
          have := (hargs c.args i t ht).2
          rw [Array.getD_eq_getD_getElem?, Array.getElem?_append_left (by simpa using hi), ← Array.getD_eq_getD_getElem?]
          exact this
        · rw [List.getElem?_append_right (by simpa using hi)] at ht
          have := hh _ _ ht
          rw [Array.getD_eq_getD_getElem?, Array.getElem?_append_right (by simpa using hi)]
          simp only [List.length_map, Array.length_toList] at this
          rw [Array.getD_eq_getD_getElem?] at this
          simpa using this
  · cases h

theorem wanted_run {ops : Array Oper} {fr : Nat → T} {o : Oper} {b : Bool} (h : wantedT ops fr o = some b) {E : Env} {n : Nat} {a : Act} (hf : FR E n fr a) : Region.wanted o (yielded ops a.tmps) = b := by
  unfold wantedT at h
  unfold Region.wanted
  split at h
  · rename_i hg; cases h; rw [hg]
  · rename_i j want hg
    rw [hg]
    unfold yielded
    dsimp only
    split at h
    · rename_i d hd
      have htr := hf.tr d
      split at h
      · rename_i b' hb
        cases h
        rw [hb] at htr
        have hv := htr.toV _ _ (.bool b') rfl
        have hlt : a.tmps[d]? = some (.bool b') := by
          rw [Array.getD_eq_getD_getElem?] at hv
          cases ht : a.tmps[d]? with
          | none => rw [ht] at hv; simp [undef] at hv
          | some u => rw [ht] at hv; simp only [Option.getD_some] at hv; rw [hv]
        rw [hd, Option.bind_some, hlt]
        cases b' <;> cases want <;> rfl
      · rename_i x hb
        cases h
        rw [hb] at htr
        have hv := htr.toV _ _ (.tuple x) rfl
        rw [hd, Option.bind_some]
        cases ht : a.tmps[d]? with
        | none => rfl
        | some u =>
          rw [Array.getD_eq_getD_getElem?, ht] at hv
          simp only [Option.getD_some] at hv
          rw [hv]; rfl
      · cases h
    · rename_i hd
      cases h
      rw [hd, Option.bind_none]
      rfl

/-- One operation in any state that fits. -/
theorem opT_sound {P : Program} {ops : Array Oper} {n : Nat} {fr : Nat → T} {o : Oper} {t : T} {S' : Store} {E : Env} {w0 : World} {a : Act} {i : Nat} {Q : Exit → Act → World → Prop} {K : Act → World → Prop}
    (ho : ops[i]? = some o) (h : Inv E w0) (hf : FR E n fr a) (hop : opT P ops n fr E.S o t S')
    (hK : ∀ E' v, E'.S = S' → Inv E' w0 → Evo E E' → TR E' t v → okDst n o.dst = true → K (a.put o.dst v) E'.w) : wpOp P ops Q i K a E.w := by
  unfold opT at hop
  unfold wpOp
  simp only [ho]
  split at hop
  · rename_i hwant
    rw [wanted_run hwant hf, if_pos rfl]
    obtain ⟨hd, hop⟩ := hop
    refine .inl ?_
    split at hop
    · rename_i g args hcal
      obtain ⟨vals, hrun, hs, ht⟩ := callee_run hcal hf hop.fn E.w
      unfold Oper.wp
      rw [hrun, Oper.upon_enter]
      refine (hop.run E w0 vals rfl h hs ht).mono fun e w' hh => ?_
      obtain ⟨v, E', rfl, rfl, hS, hI, hE, hT⟩ := hh
      exact hK E' v hS hI hE hT hd
    · obtain ⟨nx, v, E', hrun, hnx, hS, hI, hE, hT⟩ := step_sound (P := P) h hf hop
      have := hK E' v hS hI hE hT hd
      unfold Oper.wp
      rw [hrun]
      rcases hnx with rfl | ⟨rfl, rfl⟩
      · rw [Oper.upon_value]; exact this
      · rw [Oper.upon_skip]; exact this
  · rename_i hwant
    rw [wanted_run hwant hf]
    obtain ⟨hd, rfl, rfl⟩ := hop
    simp only [Bool.false_eq_true, if_false]
    exact hK E undef rfl h (Evo.refl E) (.v _) hd
  · exact hop.elim

theorem wpOpsT_sound {P : Program} {ops : Array Oper} {n : Nat} {w0 : World} {Q : Ex → (Nat → T) → Store → Prop} : ∀ (os : List Oper) (pu : Dr) (l : List Nat) (fr : Nat → T) (E : Env) (a : Act) (E0 : Env),
    l.length = os.length → (∀ (i : Nat) (o : Oper), os[i]? = some o → ∃ j, l[i]? = some j ∧ ops[j]? = some o) → Evo E0 E → Inv E w0 → FR E n fr a → wpOpsT P ops n pu os (Q .normal) fr E.S →
    wpOps P ops (Post E0 w0 n a.defers Q) l a E.w
  | [], pu, l, fr, E, a, E0, hl, _, hev, h, hf, hw => by
    have : l = [] := List.eq_nil_of_length_eq_zero (by simpa using hl)
    subst this
    exact ⟨.normal, fr, E, rfl, hw, rfl, h, hev, hf, rfl⟩
  | o :: os, pu, [], _, _, _, _, hl, _, _, _, _, _ => by simp at hl
  | o :: os, pu, i :: l, fr, E, a, E0, hl, hi, hev, h, hf, hw => by
    obtain ⟨j, hj, ho⟩ := hi 0 o rfl
    cases hj
    have hl' : l.length = os.length := by simpa using hl
    have hi' : ∀ (k : Nat) (o : Oper), os[k]? = some o → ∃ j, l[k]? = some j ∧ ops[j]? = some o := fun k o hk => by simpa using hi (k + 1) o (by simpa using hk)
    obtain ⟨t, S', pu', hop, _, hw⟩ := hw
    rw [wpOps_cons]
    refine opT_sound ho h hf hop fun E' v hS hI hE hT hd => ?_
    have := wpOpsT_sound os pu' l (put fr o.dst t) E' (a.put o.dst v) E0 hl' hi' (hev.trans hE) hI ((hf.evo hE).put hd hT) (by rw [hS]; exact hw)
    rw [Act.put_defers] at this
    exact this

theorem wp_loop_ix {P : Program} {Q : Exit → Act → World → Prop} {c : Code} (I : Nat → Act → World → Prop) {n : Nat} {a : Act} {w : World} (h₀ : I n a w)
    (round : ∀ n a w, I n a w → c.wp P (Exit.then (fun a' w' => ∃ m, m < n ∧ I m a' w') Q) a w) : (Code.loop c).wp P Q a w := by
  intro b k cs
  have key : ∀ n a w, I n a w → ∃ e a' w', Q e a' w' ∧ Arrives P (lone (b.at a (.code c :: .inLoop c :: k)) cs w) b k cs e a' w' := by
    intro n
    induction n using Nat.strongRecOn with
    | _ n ih =>
      intro a w hI
      obtain ⟨e, a₁, w₁, hq, harr⟩ := round n a w hI b (.inLoop c :: k) cs
      cases e with
      | normal =>
        obtain ⟨m, hlt, hI₁⟩ := hq
        obtain ⟨e₂, a₂, w₂, hq₂, harr₂⟩ := ih m hlt a₁ w₁ hI₁
        exact ⟨e₂, a₂, w₂, hq₂, .of_steps (Steps.trans harr (.one step_inLoop)) harr₂⟩
      | exit id => exact ⟨_, a₁, w₁, hq, .pass (x := .inLoop c) rfl (fun _ _ => .inl (by simp)) harr⟩
      | goto l => exact ⟨_, a₁, w₁, hq, .pass (x := .inLoop c) rfl (fun _ _ => .inl (by simp)) harr⟩
      | ret => exact ⟨_, a₁, w₁, hq, .pass (x := .inLoop c) rfl (fun _ _ => .inl (by simp)) harr⟩
      | panic ch => exact ⟨_, a₁, w₁, hq, .pass (x := .inLoop c) rfl (fun _ _ => .inl (by simp)) harr⟩
      | outgrown => exact ⟨_, a₁, w₁, hq, .pass (x := .inLoop c) rfl (fun _ _ => .inl (by simp)) harr⟩
  obtain ⟨e, a', w', hq, harr⟩ := key n a w h₀
  exact ⟨e, a', w', hq, .of_steps (.one step_loop) harr⟩

theorem W.of_skip {P : Program} {M n : Nat} {Q : Ex → (Nat → T) → Store → Prop} {fr : Nat → T} {S : Store} (h : Q .normal fr S) : W P M n .skip Q fr S :=
  fun E a E0 w0 _ hS hev hI hF => wp_skip ⟨.normal, fr, E, rfl, by rw [hS]; exact h, rfl, hI, hev, hF, rfl⟩

theorem W.exit {P : Program} {M n id : Nat} {Q : Ex → (Nat → T) → Store → Prop} {fr : Nat → T} {S : Store} (h : Q (.exit id) fr S) : W P M n (.exit id) Q fr S :=
  fun E a E0 w0 _ hS hev hI hF => wp_exit ⟨.exit id, fr, E, rfl, by rw [hS]; exact h, rfl, hI, hev, hF, rfl⟩

theorem W.ret {P : Program} {M n : Nat} {Q : Ex → (Nat → T) → Store → Prop} {fr : Nat → T} {S : Store} (h : Q .ret fr S) : W P M n .ret Q fr S :=
  fun E a E0 w0 _ hS hev hI hF => wp_ret ⟨.ret, fr, E, rfl, by rw [hS]; exact h, rfl, hI, hev, hF, rfl⟩

theorem W.region {P : Program} {M n id : Nat} {ops : Array Oper} {Q : Ex → (Nat → T) → Store → Prop} {fr : Nat → T} {S : Store} (hw : wpOpsT P ops n .txt ops.toList (Q .normal) fr S) : W P M n (.region id ops false) Q fr S := by
  intro E a E0 w0 _ hS hev hI hF
  subst hS
  refine wp_region (wpOpsT_sound ops.toList .txt _ fr E a E0 (by simp) (fun i o hi => ?_) hev hI hF hw)
  rw [Array.getElem?_toList] at hi
  exact ⟨i, by rw [List.getElem?_range (Array.getElem?_eq_some_iff.1 hi).1], hi⟩

theorem W.seq {P : Program} {M n : Nat} {x y : Code} {Q : Ex → (Nat → T) → Store → Prop} {fr : Nat → T} {S : Store} {R : (Nat → T) → Store → Prop} (hx : W P M n x (Ex.seq R Q) fr S) (hy : ∀ fr S, R fr S → W P M n y Q fr S) : W P M n (.seq x y) Q fr S := by
  intro E a E0 w0 hM hS hev hI hF
  refine wp_seq (wp_mono (hx E a E0 w0 hM hS hev hI hF) fun e a' w' hp => ?_)
  obtain ⟨ex, fr', E', rfl, hq, rfl, hI, hE, hF, hd⟩ := hp
  cases ex with
  | normal =>
    have := hy fr' E'.S hq E' a' E0 w0 hM rfl hE hI hF
    rw [hd] at this
    exact this
  | exit i => exact ⟨.exit i, fr', E', rfl, hq, rfl, hI, hE, hF, hd⟩
  | ret => exact ⟨.ret, fr', E', rfl, hq, rfl, hI, hE, hF, hd⟩

theorem W.cond {P : Program} {M n : Nat} {c : Operand} {x y : Code} {Q : Ex → (Nat → T) → Store → Prop} {fr : Nat → T} {S : Store} {b : Bool} (hb : TL.ev fr c = .v (.bool b)) (hx : b = true → W P M n x Q fr S) (hy : b = false → W P M n y Q fr S) : W P M n (.cond c x y) Q fr S := by
  intro E a E0 w0 hM hS hev hI hF
  have hv := (hF.ev c).toV _ _ (.bool b) (by rw [hb]; rfl)
  cases b with
  | true => exact wp_cond_true hv (hx rfl E a E0 w0 hM hS hev hI hF)
  | false => exact wp_cond_false hv (hy rfl E a E0 w0 hM hS hev hI hF)

theorem W.block {P : Program} {M n id : Nat} {c : Code} {Q : Ex → (Nat → T) → Store → Prop} {fr : Nat → T} {S : Store} (hw : W P M n c (Ex.block id Q) fr S) : W P M n (.block id c) Q fr S := by
  intro E a E0 w0 hM hS hev hI hF
  refine wp_block (wp_mono (hw E a E0 w0 hM hS hev hI hF) fun e a' w' hp => ?_)
  obtain ⟨ex, fr', E', rfl, hq, rfl, hI, hE, hF, hd⟩ := hp
  cases ex with
  | normal => exact ⟨.normal, fr', E', rfl, hq, rfl, hI, hE, hF, hd⟩
  | exit i =>
    simp only [Ex.block] at hq
    simp only [Ex.to, Exit.inBlock]
    split at hq
    · rename_i hi; rw [if_pos hi]; exact ⟨.normal, fr', E', rfl, hq, rfl, hI, hE, hF, hd⟩
    · rename_i hi; rw [if_neg hi]; exact ⟨.exit i, fr', E', rfl, hq, rfl, hI, hE, hF, hd⟩
  | ret => exact ⟨.ret, fr', E', rfl, hq, rfl, hI, hE, hF, hd⟩

/-- What is left over may be dropped ahead of code. -/
theorem W.gc {P : Program} {M n : Nat} {c : Code} {Q : Ex → (Nat → T) → Store → Prop} {fr fr2 : Nat → T} {S S2 : Store} {keep : List Nat} {fz : List Gh} (hg : Gc M S fr S2 fr2 keep fz) (hw : W P M n c Q fr2 S2) : W P M n c Q fr S := by
  intro E a E0 w0 hM hS hev hI hF
  subst hS
  obtain ⟨E2, h1, h2, h3, h4, h5, _⟩ := hg.frees hI hM hev hF
  have := hw E2 a E0 w0 hM h2 h4 h3 h5
  rw [h1] at this
  exact this

theorem W.loop {P : Program} {M n : Nat} {c : Code} {Q : Ex → (Nat → T) → Store → Prop} {fr : Nat → T} {S : Store} (hw : LoopT M (fun Q' => W P M n c Q') Q fr S) : W P M n (.loop c) Q fr S := by
  intro E a E0 w0 hM hS hev hI hF
  obtain ⟨I, k, fr0, S0, keep, fz, hg, h0, hr⟩ := hw
  subst hS
  obtain ⟨E1, e1, e2, e3, e4, e5, _⟩ := hg.frees hI hM hev hF
  rw [← e1]
  refine wp_loop_ix (fun k a' w' => ∃ fr' E', I k fr' E'.S ∧ E'.w = w' ∧ Inv E' w0 ∧ Evo E0 E' ∧ FR E' n fr' a' ∧ a'.defers = a.defers) (n := k) ⟨fr0, E1, by rw [e2]; exact h0, rfl, e3, e4, e5, rfl⟩ ?_
  rintro k a' w' ⟨fr', E', h1, rfl, h2, h3, h4, h5⟩
  refine wp_mono (hr k fr' E'.S h1 E' a' E0 w0 hM rfl h3 h2 h4) fun e a2 w2 hp => ?_
  obtain ⟨ex, fr2, E2, rfl, hq, rfl, hI, hE, hF, hd⟩ := hp
  cases ex with
  | normal =>
    obtain ⟨m, fr3, S3, keep3, fz3, hg3, hm, hq⟩ := hq
    obtain ⟨E3, f1, f2, f3, f4, f5, _⟩ := hg3.frees hI hM hE hF
    exact ⟨m, hm, fr3, E3, by rw [f2]; exact hq, f1, f3, f4, f5, hd.trans h5⟩
  | exit i => exact ⟨.exit i, fr2, E2, rfl, hq, rfl, hI, hE, hF, hd.trans h5⟩
  | ret => exact ⟨.ret, fr2, E2, rfl, hq, rfl, hI, hE, hF, hd.trans h5⟩

theorem W.mono {P : Program} {M n : Nat} {c : Code} {Q Q' : Ex → (Nat → T) → Store → Prop} {fr : Nat → T} {S : Store} (hw : W P M n c Q fr S) (hq : ∀ e fr S, Q e fr S → Q' e fr S) : W P M n c Q' fr S := by
  intro E a E0 w0 hM hS hev hI hF
  refine wp_mono (hw E a E0 w0 hM hS hev hI hF) fun e a' w' hp => ?_
  obtain ⟨ex, fr', E', rfl, hq', rfl, hI, hE, hF, hd⟩ := hp
  exact ⟨ex, fr', E', rfl, hq _ _ _ hq', rfl, hI, hE, hF, hd⟩

theorem W.of {P : Program} {M n : Nat} {c : Code} {Q : Ex → (Nat → T) → Store → Prop} {fr : Nat → T} {S : Store} (hw : wpT P M n c Q fr S) : W P M n c Q fr S := hw

end Go.TL

/- An operation looks at its operands alone. No conditions. -/
namespace Go.TL
set_option linter.unusedSimpArgs false
open Go.RowKit

theorem map_ev {fr fr' : Nat → T} : ∀ (l : List Operand), (∀ x ∈ l, ev fr x = ev fr' x) → l.map (ev fr) = l.map (ev fr')
  | [], _ => rfl
  | x :: l, h => by rw [List.map_cons, List.map_cons, h x (by simp), map_ev l fun y hy => h y (by simp [hy])]

theorem parts_ev {fr fr' : Nat → T} {ps : Array (Nat × Operand)} (h : ∀ x ∈ ps.toList.map (·.2), ev fr x = ev fr' x) : partsT fr ps = partsT fr' ps := by
  unfold partsT
  apply List.map_congr_left
  intro x hx
  rw [h x.2 (List.mem_map.2 ⟨x, hx, rfl⟩)]

theorem builtin_ev {P : Program} {S : Store} {fr fr' : Nat → T} {b : Builtin} {args : List Operand} {tys : List TypeId} (h : ∀ x ∈ args, ev fr x = ev fr' x) : builtinT P S fr b args tys = builtinT P S fr' b args tys := by
  unfold builtinT
  split
  · rw [h _ (by simp)]
  · rw [h _ (by simp), h _ (by simp)]
  · rw [map_ev _ h]
  · rw [map_ev _ h]
  · rw [h _ (by simp)]
  · rfl

theorem stepT_congr {P : Program} {S : Store} {fr fr' : Nat → T} {o : Oper} (h : ∀ x ∈ o.op.operands.toList, ev fr x = ev fr' x) : stepT P S fr o = stepT P S fr' o := by
  obtain ⟨dst, op, ty, pos, aft, gd⟩ := o
  simp only at h
  cases op with
  | move x => simp only [stepT]; rw [h x (by simp [Op.operands])]
  | assign x => simp only [stepT]; rw [h x (by simp [Op.operands])]
  | pick c a b => simp only [stepT]; rw [h c (by simp [Op.operands]), h a (by simp [Op.operands]), h b (by simp [Op.operands])]
  | box t x => simp only [stepT]; rw [h x (by simp [Op.operands])]
  | build t ps => simp only [stepT]; rw [parts_ev (fr' := fr') (fun x hx => h x (by simpa [Op.operands] using hx))]
  | buildSlice t l ps => simp only [stepT]; rw [parts_ev (fr' := fr') (fun x hx => h x (by simpa [Op.operands] using hx))]
  | load t x => simp only [stepT]; rw [h x (by simp [Op.operands])]
  | nilCheck x => simp only [stepT]; rw [h x (by simp [Op.operands])]
  | store t x y => simp only [stepT]; rw [h x (by simp [Op.operands]), h y (by simp [Op.operands])]
  | binOp op t x y u => simp only [stepT]; rw [h x (by simp [Op.operands]), h y (by simp [Op.operands])]
  | unOp op t x => simp only [stepT]; rw [h x (by simp [Op.operands])]
  | convert s d x => simp only [stepT]; rw [h x (by simp [Op.operands])]
  | makeFunc fn first caps =>
    simp only [stepT]
    split
    · split
      · rename_i he
        rw [map_ev _ fun x hx => h x (by simp [Op.operands]; right; simpa using hx)]
      · rfl
    · rfl
  | makeSlice t l c => simp only [stepT]; rw [h l (by simp [Op.operands]), h c (by simp [Op.operands])]
  | slice t x lo hi mx =>
    simp only [stepT]
    split
    · have e1 : lo.map (ev fr) = lo.map (ev fr') := by
        cases lo with
        | none => rfl
        | some y => simp only [Option.map_some]; rw [h y (by simp [Op.operands])]
      have e2 : hi.map (ev fr) = hi.map (ev fr') := by
        cases hi with
        | none => rfl
        | some y => simp only [Option.map_some]; rw [h y (by simp [Op.operands])]
      rw [e1, e2, h x (by simp [Op.operands])]
    · rfl
  | fieldAddr s x f => simp only [stepT]; rw [h x (by simp [Op.operands])]
  | field t x f => simp only [stepT]; rw [h x (by simp [Op.operands])]
  | indexAddr t x i => simp only [stepT]; rw [h x (by simp [Op.operands]), h i (by simp [Op.operands])]
  | index t x i => simp only [stepT]; rw [h x (by simp [Op.operands]), h i (by simp [Op.operands])]
  | extract x i => simp only [stepT]; rw [h x (by simp [Op.operands])]
  | call c =>
    simp only [stepT]
    split
    · rename_i b hb
      exact builtin_ev fun x hx => h x (by simp [Op.operands, Call.operands, hb]; simpa using hx)
    · rfl
  | _ => rfl

theorem calleeT_congr {fr fr' : Nat → T} {o : Oper} (h : ∀ x ∈ o.op.operands.toList, ev fr x = ev fr' x) : calleeT fr o = calleeT fr' o := by
  obtain ⟨dst, op, ty, pos, aft, gd⟩ := o
  simp only at h
  cases op with
  | call c =>
    simp only [calleeT]
    split
    · rename_i f hf
      have e1 := h f (by simp [Op.operands, Call.operands, hf])
      have e2 := map_ev (fr := fr) (fr' := fr') c.args.toList fun x hx => h x (by simp [Op.operands, Call.operands, hf]; right; simpa using hx)
      rw [e1, e2]
    · rfl
  | _ => rfl

end Go.TL

/- Regions whose order is drawn, where every step leaves the roots: any order comes to what the text's order comes to. No conditions. -/
namespace Go.TL
set_option linter.unusedSimpArgs false
open Go.RowKit

theorem opT_congr {P : Program} {ops : Array Oper} {n : Nat} {fr fr' : Nat → T} {S S' : Store} {o : Oper} {t : T} (hl : ∀ x ∈ o.looksAt ops, fr x = fr' x) (h : opT P ops n fr S o t S') : opT P ops n fr' S o t S' := by
  have he : ∀ x ∈ o.op.operands.toList, ev fr x = ev fr' x := by
    intro x hx
    cases x with
    | tmp i =>
      refine hl i ?_
      unfold Oper.looksAt
      refine List.mem_append.2 (.inl (List.mem_filterMap.2 ⟨_, hx, rfl⟩))
    | _ => rfl
  have hw : wantedT ops fr o = wantedT ops fr' o := by
    unfold wantedT
    cases hg : o.guard with
    | none => rfl
    | some g =>
      obtain ⟨j, w⟩ := g
      simp only
      cases hd : (ops[j]?).bind (·.dst) with
      | none => rfl
      | some d =>
        have := hl d (by
          unfold Oper.looksAt
          refine List.mem_append.2 (.inr ?_)
          rw [hg]
          simp [hd])
        simp only [this]
  unfold opT at h ⊢
  rw [← hw, ← calleeT_congr he, ← stepT_congr he]
  exact h

def frN : List Oper → List T → (Nat → T) → Nat → Nat → T
  | o :: os, v :: vs, fr, i + 1 => frN os vs (put fr o.dst v) i
  | _, _, fr, _ => fr

theorem pastOk_mem {P : Program} {ops : Array Oper} {n i : Nat} {fr : Nat → T} {o : Oper} {t : T} : ∀ {l : List (Nat × Store)}, pastOk P ops n i fr o t l → ∀ x ∈ l, bitT ops i x.1 = true ∨ opT P ops n fr x.2 o t x.2
  | [], _, x, hx => by simp at hx
  | y :: l, h, x, hx => by
    rcases List.mem_cons.1 hx with rfl | hx
    · exact h.1
    · exact pastOk_mem h.2 x hx
theorem behindOk_mem {ops : Array Oper} {i : Nat} : ∀ {l : List (Nat × Store)}, behindOk ops i l → ∀ x ∈ l, bitT ops i x.1 = true
  | [], _, x, hx => by simp at hx
  | y :: l, h, x, hx => by
    rcases List.mem_cons.1 hx with rfl | hx
    · exact h.1
    · exact behindOk_mem h.2 x hx
theorem pendOk_mem {P : Program} {ops : Array Oper} {n i : Nat} {S' : Store} : ∀ {l : List (Nat × (Nat → T) × Oper × T)}, pendOk P ops n i S' l → ∀ x ∈ l, bitT ops i x.1 = true ∨ opT P ops n x.2.1 S' x.2.2.1 x.2.2.2 S'
  | [], _, x, hx => by simp at hx
  | y :: l, h, x, hx => by
    rcases List.mem_cons.1 hx with rfl | hx
    · exact h.1
    · exact pendOk_mem h.2 x hx

theorem opT_free {P : Program} {ops : Array Oper} {n : Nat} {fr : Nat → T} {S S1 : Store} {o : Oper} {t : T} (hf : freeOp o = true) (h : opT P ops n fr S o t S) : opT P ops n fr S1 o t S1 := by
  obtain ⟨dst, op, ty, pos, aft, gd⟩ := o
  unfold opT at h ⊢
  split at h
  · obtain ⟨hd, h⟩ := h
    refine ⟨hd, ?_⟩
    cases op with
    | move x => simp only [calleeT, stepT, Option.some.injEq, Prod.mk.injEq] at h ⊢; exact ⟨h.1, trivial⟩
    | assign x => simp only [calleeT, stepT, Option.some.injEq, Prod.mk.injEq] at h ⊢; exact ⟨h.1, trivial⟩
    | pick c a b => simp only [calleeT, stepT, Option.map_eq_some_iff, Prod.mk.injEq] at h ⊢; obtain ⟨x, h1, h2, _⟩ := h; exact ⟨x, h1, h2, trivial⟩
    | binOp q t x y u => simp only [calleeT, stepT, Option.map_eq_some_iff, Prod.mk.injEq] at h ⊢; obtain ⟨x, h1, h2, _⟩ := h; exact ⟨x, h1, h2, trivial⟩
    | unOp q t x => simp only [calleeT, stepT, Option.map_eq_some_iff, Prod.mk.injEq] at h ⊢; obtain ⟨x, h1, h2, _⟩ := h; exact ⟨x, h1, h2, trivial⟩
    | field t x f => simp only [calleeT, stepT, Option.map_eq_some_iff, Prod.mk.injEq] at h ⊢; obtain ⟨x, h1, h2, _⟩ := h; exact ⟨x, h1, h2, trivial⟩
    | index t x f => simp only [calleeT, stepT, Option.map_eq_some_iff, Prod.mk.injEq] at h ⊢; obtain ⟨x, h1, h2, _⟩ := h; exact ⟨x, h1, h2, trivial⟩
    | extract x f => simp only [calleeT, stepT, Option.map_eq_some_iff, Prod.mk.injEq] at h ⊢; obtain ⟨x, h1, h2, _⟩ := h; exact ⟨x, h1, h2, trivial⟩
    | makeFunc f first caps =>
      cases f with
      | func g =>
        simp only [calleeT, stepT] at h ⊢
        split at h
        · rename_i he
          simp only [Option.some.injEq, Prod.mk.injEq] at h
          rw [if_pos he, h.1]
        · cases h
      | _ => simp [calleeT, stepT] at h
    | _ => simp [freeOp] at hf
  · exact ⟨h.1, h.2.1, rfl⟩
  · exact h

theorem opT_skip {P : Program} {ops : Array Oper} {n : Nat} {fr : Nat → T} {S S1 : Store} {o : Oper} {t : T} (hw : wantedT ops fr o = some false) (h : opT P ops n fr S o t S) : opT P ops n fr S1 o t S1 := by
  simp only [opT, hw] at h ⊢
  exact ⟨h.1, h.2.1, trivial⟩

/-- What a walk through a region in the text's order tells of each operation. -/
def Walked (P : Program) (ops : Array Oper) (n : Nat) (os : List Oper) (fr : Nat → T) (S : Store) (K : (Nat → T) → Store → Prop) (i0 : Nat) (past : List (Nat × Store)) (pend : List (Nat × (Nat → T) × Oper × T)) : Prop :=
    ∃ (vals : List T) (st : Nat → Store) (ch : Nat → Bool), vals.length = os.length ∧ st 0 = S ∧ K (frN os vals fr os.length) (st os.length) ∧
      (∀ (i : Nat) (o : Oper), os[i]? = some o → ∃ v, vals[i]? = some v ∧ opT P ops n (frN os vals fr i) (st i) o v (st (i + 1))) ∧
      (∀ (i : Nat) (o : Oper), os[i]? = some o → ch i = false → st (i + 1) = st i) ∧
      (∀ (i j : Nat) (o : Oper), os[i]? = some o → j < i → ch i = true → ch j = true → bitT ops (i0 + i) (i0 + j) = true) ∧
      (∀ (i : Nat) (o : Oper), os[i]? = some o → ch i = true → ∀ x ∈ past, bitT ops (i0 + i) x.1 = true) ∧
      (∀ (i j : Nat) (o : Oper) (v : T), os[i]? = some o → vals[i]? = some v → j < i → ch i = false → ch j = true → bitT ops (i0 + i) (i0 + j) = true ∨ opT P ops n (frN os vals fr i) (st j) o v (st j)) ∧
      (∀ (i : Nat) (o : Oper) (v : T), os[i]? = some o → vals[i]? = some v → ch i = false → ∀ x ∈ past, bitT ops (i0 + i) x.1 = true ∨ opT P ops n (frN os vals fr i) x.2 o v x.2) ∧
      (∀ (i j : Nat) (o : Oper) (v : T), os[i]? = some o → vals[i]? = some v → i < j → j < os.length → ch i = false → ch j = true → bitT ops (i0 + j) (i0 + i) = true ∨ opT P ops n (frN os vals fr i) (st (j + 1)) o v (st (j + 1))) ∧
      (∀ (j : Nat) (o : Oper), os[j]? = some o → ch j = true → ∀ x ∈ pend, bitT ops (i0 + j) x.1 = true ∨ opT P ops n x.2.1 (st (j + 1)) x.2.2.1 x.2.2.2 (st (j + 1)))

theorem walk_tells {P : Program} {ops : Array Oper} {n : Nat} {K : (Nat → T) → Store → Prop} : ∀ (os : List Oper) (pu : Dr) (fr : Nat → T) (S : Store) (i0 : Nat) (past : List (Nat × Store)) (pend : List (Nat × (Nat → T) × Oper × T)), pu = .any i0 past pend → wpOpsT P ops n pu os K fr S →
    Walked P ops n os fr S K i0 past pend
  | [], pu, fr, S, i0, past, pend, _, h => ⟨[], fun _ => S, fun _ => false, rfl, rfl, h, fun i o hi => by simp at hi, fun i o hi => by simp at hi, fun i j o hi => by simp at hi, fun i o hi => by simp at hi, fun i j o v hi => by simp at hi, fun i o v hi => by simp at hi, fun i j o v hi => by simp at hi, fun j o hi => by simp at hi⟩
  | o :: os, pu, fr, S, i0, past, pend, hpu, h => by
    subst hpu
    obtain ⟨t, S', pu', hop, hst, hw⟩ := h
    -- the rest, from whatever was listed
    have key : ∀ (c : Bool) (past' : List (Nat × Store)) (pend' : List (Nat × (Nat → T) × Oper × T)), pu' = .any (i0 + 1) past' pend' → (c = false → S' = S) → (c = true → ∀ x ∈ past, bitT ops i0 x.1 = true) →
        (c = false → ∀ x ∈ past, bitT ops i0 x.1 = true ∨ opT P ops n fr x.2 o t x.2) → (c = true → ∀ x ∈ pend, bitT ops i0 x.1 = true ∨ opT P ops n x.2.1 S' x.2.2.1 x.2.2.2 S') →
        (∀ x ∈ past, x ∈ past') → (c = true → (i0, S) ∈ past') → (∀ x ∈ pend, x ∈ pend') → (c = false → (freeOp o = true ∨ wantedT ops fr o = some false ∨ (i0, fr, o, t) ∈ pend')) → Walked P ops n (o :: os) fr S K i0 past pend := by
      intro c past' pend' hpu' hc1 hc2 hc3 hc4 hp1 hp2 hp3 hp4
      obtain ⟨vals, st, ch, e1, e2, e3, e4, e5, e6, e7, e8, e9, e10, e11⟩ := walk_tells os pu' (put fr o.dst t) S' (i0 + 1) past' pend' hpu' hw
      have sh : ∀ k, i0 + 1 + k = i0 + (k + 1) := fun k => by omega
      subst e2
      refine ⟨t :: vals, fun k => match k with | 0 => S | k + 1 => st k, fun k => match k with | 0 => c | k + 1 => ch k, by simp [e1], rfl, e3, ?_, ?_, ?_, ?_, ?_, ?_, ?_, ?_⟩
      · intro i o1 hi
        cases i with
        | zero =>
          simp only [List.getElem?_cons_zero, Option.some.injEq] at hi
          subst hi
          exact ⟨t, rfl, hop⟩
        | succ i => exact e4 i o1 (by simpa using hi)
      · intro i o1 hi hcc
        cases i with
        | zero => exact hc1 hcc
        | succ i => exact e5 i o1 (by simpa using hi) hcc
      · intro i j o1 hi hj h1 h2
        cases i with
        | zero => omega
        | succ i =>
          cases j with
          | zero =>
            have := e7 i o1 (by simpa using hi) h1 _ (hp2 h2)
            rw [sh] at this; exact this
          | succ j =>
            have := e6 i j o1 (by simpa using hi) (by omega) h1 h2
            rw [sh, sh] at this; exact this
      · intro i o1 hi h1 x hx
        cases i with
        | zero => exact hc2 h1 x hx
        | succ i =>
          have := e7 i o1 (by simpa using hi) h1 x (hp1 x hx)
          rw [sh] at this; exact this
      · intro i j o1 v hi hv hj h1 h2
        cases i with
        | zero => omega
        | succ i =>
          cases j with
          | zero =>
            have := e9 i o1 v (by simpa using hi) (by simpa using hv) h1 _ (hp2 h2)
            rw [sh] at this; exact this
          | succ j =>
            have := e8 i j o1 v (by simpa using hi) (by simpa using hv) (by omega) h1 h2
            rw [sh, sh] at this; exact this
      · intro i o1 v hi hv h1 x hx
        cases i with
        | zero =>
          simp only [List.getElem?_cons_zero, Option.some.injEq] at hi hv
          subst hi; subst hv
          exact hc3 h1 x hx
        | succ i =>
          have := e9 i o1 v (by simpa using hi) (by simpa using hv) h1 x (hp1 x hx)
          rw [sh] at this; exact this
      · intro i j o1 v hi hv hj hjl h1 h2
        cases j with
        | zero => omega
        | succ j =>
          cases i with
          | zero =>
            simp only [List.getElem?_cons_zero, Option.some.injEq] at hi hv
            subst hi; subst hv
            rcases hp4 h1 with hfo | hwf | hmem
            · right
              have hop' := hop
              rw [hc1 h1] at hop'
              exact opT_free hfo hop'
            · right
              have hop' := hop
              rw [hc1 h1] at hop'
              exact opT_skip hwf hop'
            · obtain ⟨o2, ho2⟩ : ∃ o2, os[j]? = some o2 := ⟨_, List.getElem?_eq_getElem (by simpa using hjl)⟩
              have := e11 j o2 ho2 h2 _ hmem
              rw [sh] at this; exact this
          | succ i =>
            have := e10 i j o1 v (by simpa using hi) (by simpa using hv) (by omega) (by simpa using hjl) h1 h2
            rw [sh, sh] at this; exact this
      · intro j o1 hj h1 x hx
        cases j with
        | zero =>
          exact hc4 h1 x hx
        | succ j =>
          have := e11 j o1 (by simpa using hj) h1 x (hp3 x hx)
          rw [sh] at this; exact this
    cases hst with
    | free hf => exact key false past pend rfl (fun _ => rfl) (fun h => by cases h) (fun _ x _ => .inr (opT_free hf hop)) (fun h => by cases h) (fun x h => h) (fun h => by cases h) (fun x h => h) (fun _ => .inl hf)
    | skip hw0 => exact key false past pend rfl (fun _ => rfl) (fun h => by cases h) (fun _ x _ => .inr (opT_skip hw0 hop)) (fun h => by cases h) (fun x h => h) (fun h => by cases h) (fun x h => h) (fun _ => .inr (.inl hw0))
    | still hp => exact key false past _ rfl (fun _ => rfl) (fun h => by cases h) (fun _ x hx => pastOk_mem hp x hx) (fun h => by cases h) (fun x h => h) (fun h => by cases h) (fun x h => List.mem_cons_of_mem _ h) (fun _ => .inr (.inr (List.mem_cons_self ..)))
    | chain hb hk => exact key true _ pend rfl (fun h => by cases h) (fun _ x hx => behindOk_mem hb x hx) (fun h => by cases h) (fun _ x hx => pendOk_mem hk x hx) (fun x h => List.mem_cons_of_mem _ h) (fun _ => List.mem_cons_self ..) (fun x h => h) (fun h => by cases h)

def dstAt (os : List Oper) (k : Nat) : Option Nat := (os[k]?).bind (·.dst)

theorem put_ne {fr : Nat → T} {d : Option Nat} {v : T} {t : Nat} (h : d ≠ some t) : put fr d v t = fr t := by
  cases d with
  | none => rfl
  | some d => simp only [put, upd]; rw [if_neg]; intro e; exact h (by rw [e])

theorem frN_out : ∀ (os : List Oper) (vals : List T) (fr : Nat → T) (i t : Nat), (∀ k, k < i → dstAt os k ≠ some t) → frN os vals fr i t = fr t
  | [], vals, fr, i, t, h => by cases i <;> rfl
  | o :: os, [], fr, i, t, h => by cases i <;> rfl
  | o :: os, v :: vs, fr, 0, t, h => rfl
  | o :: os, v :: vs, fr, i + 1, t, h => by
    simp only [frN]
    rw [frN_out os vs _ i t fun k hk => by have := h (k + 1) (by omega); simpa [dstAt] using this]
    exact put_ne (by have := h 0 (by omega); simpa [dstAt] using this)

theorem frN_in : ∀ (os : List Oper) (vals : List T) (fr : Nat → T) (i k t : Nat) (v : T), vals.length = os.length → k < i → dstAt os k = some t → vals[k]? = some v → (∀ k', k' ≠ k → dstAt os k' ≠ some t) → frN os vals fr i t = v
  | [], vals, fr, i, k, t, v, hl, hk, hd, hv, hu => by simp [dstAt] at hd
  | o :: os, [], fr, i, k, t, v, hl, hk, hd, hv, hu => by simp at hl
  | o :: os, w :: vs, fr, 0, k, t, v, hl, hk, hd, hv, hu => by omega
  | o :: os, w :: vs, fr, i + 1, 0, t, v, hl, hk, hd, hv, hu => by
    simp only [frN]
    simp only [List.getElem?_cons_zero, Option.some.injEq] at hv
    subst hv
    rw [frN_out os vs _ i t fun k hk => by have := hu (k + 1) (by omega); simpa [dstAt] using this]
    have : o.dst = some t := by simpa [dstAt] using hd
    rw [this]
    simp [put, upd]
  | o :: os, w :: vs, fr, i + 1, k + 1, t, v, hl, hk, hd, hv, hu => by
    simp only [frN]
    exact frN_in os vs _ i k t v (by simpa using hl) (by omega) (by simpa [dstAt] using hd) (by simpa using hv) fun k' hk' => by
      have := hu (k' + 1) (by omega); simpa [dstAt] using this

/-- What comes ahead of each operation. -/
theorem before_size (l : List Oper) (acc : Array Nat) : (l.foldl (init := acc) fun acc o => acc.push (o.after.foldl (fun s e => if Region.binds .any e then s ||| 2 ^ e.on ||| acc.getD e.on 0 else s) 0)).size = acc.size + l.length := by
  induction l generalizing acc with
  | nil => rfl
  | cons o l ih => rw [List.foldl_cons, ih]; simp; omega

theorem before_bits (es : List Edge) (acc : Array Nat) (s j : Nat) (h : (es.foldl (fun s e => if Region.binds .any e then s ||| 2 ^ e.on ||| acc.getD e.on 0 else s) s).testBit j = true) :
    s.testBit j = true ∨ ∃ e ∈ es, Region.binds .any e = true ∧ (e.on = j ∨ (acc.getD e.on 0).testBit j = true) := by
  induction es generalizing s with
  | nil => exact .inl h
  | cons e es ih =>
    rw [List.foldl_cons] at h
    rcases ih _ h with h1 | ⟨e1, h1, h2, h3⟩
    · split at h1
      · rename_i hb
        rw [Nat.testBit_or, Nat.testBit_or, Bool.or_eq_true, Bool.or_eq_true] at h1
        rcases h1 with (h1 | h1) | h1
        · exact .inl h1
        · rw [Nat.testBit_two_pow] at h1
          exact .inr ⟨e, List.mem_cons_self .., hb, .inl (by simpa using h1)⟩
        · exact .inr ⟨e, List.mem_cons_self .., hb, .inr h1⟩
      · exact .inl h1
    · exact .inr ⟨e1, List.mem_cons_of_mem _ h1, h2, h3⟩

theorem before_go : ∀ (l : List Oper) (acc : Array Nat) (i j : Nat), ((l.foldl (init := acc) fun acc o => acc.push (o.after.foldl (fun s e => if Region.binds .any e then s ||| 2 ^ e.on ||| acc.getD e.on 0 else s) 0)).getD i 0).testBit j = true →
    (i < acc.size ∧ (acc.getD i 0).testBit j = true) ∨ ∃ k o, i = acc.size + k ∧ l[k]? = some o ∧ ∃ e ∈ o.after, Region.binds .any e = true ∧ (e.on = j ∨ (e.on < i ∧ ((l.foldl (init := acc) fun acc o => acc.push (o.after.foldl (fun s e => if Region.binds .any e then s ||| 2 ^ e.on ||| acc.getD e.on 0 else s) 0)).getD e.on 0).testBit j = true))
  | [], acc, i, j, h => by
    left
    refine ⟨?_, h⟩
    rcases Nat.lt_or_ge i acc.size with hl | hl
    · exact hl
    · simp only [List.foldl_nil, Array.getD_eq_getD_getElem?, Array.getElem?_eq_none hl, Option.getD_none, Nat.zero_testBit] at h
      cases h
  | o :: l, acc, i, j, h => by
    have keep : ∀ (l : List Oper) (acc : Array Nat) (x : Nat), x < acc.size → ((l.foldl (init := acc) fun acc o => acc.push (o.after.foldl (fun s e => if Region.binds .any e then s ||| 2 ^ e.on ||| acc.getD e.on 0 else s) 0)).getD x 0) = acc.getD x 0 := by
      intro l
      induction l with
      | nil => intro acc x _; rfl
      | cons o l ih =>
        intro acc x hx
        rw [List.foldl_cons, ih _ _ (by simp; omega), Array.getD_eq_getD_getElem?, Array.getD_eq_getD_getElem?, Array.getElem?_push_lt hx, Array.getElem?_eq_getElem hx]
    rw [List.foldl_cons] at h ⊢
    rcases before_go l _ i j h with ⟨h1, h2⟩ | ⟨k, o1, h1, h2, h3⟩
    · simp only [Array.size_push] at h1
      rcases Nat.lt_or_ge i acc.size with hl | hl
      · left
        refine ⟨hl, ?_⟩
        rw [Array.getD_eq_getD_getElem?, Array.getElem?_push_lt hl] at h2
        rw [Array.getD_eq_getD_getElem?, Array.getElem?_eq_getElem hl]
        exact h2
      · right
        have : i = acc.size := by omega
        subst this
        refine ⟨0, o, rfl, rfl, ?_⟩
        rw [Array.getD_eq_getD_getElem?, Array.getElem?_push_size, Option.getD_some, ← Array.foldl_toList] at h2
        rcases before_bits _ _ _ _ h2 with h3 | ⟨e, h3, h4, h5⟩
        · simp at h3
        · refine ⟨e, by simpa using h3, h4, ?_⟩
          rcases h5 with h5 | h5
          · exact .inl h5
          · have hlt : e.on < acc.size := by
              rcases Nat.lt_or_ge e.on acc.size with hl | hl
              · exact hl
              · simp only [Array.getD_eq_getD_getElem?, Array.getElem?_eq_none hl, Option.getD_none, Nat.zero_testBit] at h5
                cases h5
            refine .inr ⟨hlt, ?_⟩
            rw [keep _ _ _ (by simp; omega), Array.getD_eq_getD_getElem?, Array.getElem?_push_lt hlt]
            rw [Array.getD_eq_getD_getElem?, Array.getElem?_eq_getElem hlt] at h5
            exact h5
    · right
      simp only [Array.size_push] at h1
      exact ⟨k + 1, o1, by omega, by simpa using h2, h3⟩

theorem bit_edge {ops : Array Oper} {i j : Nat} (h : bitT ops i j = true) : ∃ o, ops[i]? = some o ∧ ∃ e ∈ o.after, Region.binds .any e = true ∧ (e.on = j ∨ (e.on < i ∧ bitT ops e.on j = true)) := by
  unfold bitT Region.before at h
  rw [← Array.foldl_toList] at h
  rcases before_go _ _ _ _ h with ⟨h1, _⟩ | ⟨k, o, h1, h2, e, h3, h4, h5⟩
  · simp at h1
  · simp only [Array.size_empty, Nat.zero_add] at h1
    subst h1
    refine ⟨o, by rw [← Array.getElem?_toList]; exact h2, e, h3, h4, ?_⟩
    rcases h5 with h5 | ⟨h5, h6⟩
    · exact .inl h5
    · refine .inr ⟨h5, ?_⟩
      unfold bitT Region.before
      rw [← Array.foldl_toList]
      exact h6

/-- Whatever is listed has all listed that comes ahead of it. -/
theorem bit_closed {ops : Array Oper} {ls : Nat → Prop} (hcl : ∀ (i : Nat) (o : Oper), ops[i]? = some o → ls i → ∀ e ∈ o.after, Region.binds .any e = true → ls e.on) : ∀ (i j : Nat), ls i → bitT ops i j = true → ls j := by
  intro i
  induction i using Nat.strongRecOn with
  | _ i ih =>
    intro j hi hb
    obtain ⟨o, ho, e, he, hbi, h⟩ := bit_edge hb
    have := hcl i o ho hi e he hbi
    rcases h with rfl | ⟨h1, h2⟩
    · exact this
    · exact ih _ h1 j this h2

/-- No two operations can be told apart by the order. -/
def drawOk (ops : Array Oper) : Bool :=
  let b := Region.before ops
  (List.range ops.size).all fun i => match ops[i]? with
    | none => false
    | some o => (o.after.all fun e => !Region.binds .any e || Nat.blt e.on i) && (List.range ops.size).all fun k => match ops[k]? with
      | none => false
      | some o2 => match o2.dst with
        | none => true
        | some d => (k == i || o.dst != some d) && (!(o.looksAt ops).contains d || k == i || (Nat.blt k i && (b.getD i 0).testBit k) || (Nat.blt i k && (b.getD k 0).testBit i))

structure DrawOk (ops : Array Oper) : Prop where
  down : ∀ (i : Nat) (o : Oper), ops[i]? = some o → ∀ e ∈ o.after, Region.binds .any e = true → e.on < i
  uniq : ∀ (i k : Nat) (d : Nat), dstAt ops.toList i = some d → dstAt ops.toList k = some d → k = i
  looks : ∀ (i : Nat) (o : Oper) (k : Nat) (o2 : Oper) (d : Nat), ops[i]? = some o → ops[k]? = some o2 → o2.dst = some d → d ∈ o.looksAt ops → k = i ∨ (k < i ∧ bitT ops i k = true) ∨ (i < k ∧ bitT ops k i = true)

theorem DrawOk.of {ops : Array Oper} (h : drawOk ops = true) : DrawOk ops := by
  have key : ∀ (i : Nat) (o : Oper), ops[i]? = some o → (o.after.all fun e => !Region.binds .any e || Nat.blt e.on i) = true ∧ ∀ (k : Nat) (o2 : Oper) (d : Nat), ops[k]? = some o2 → o2.dst = some d →
      (k == i || o.dst != some d) = true ∧ (!(o.looksAt ops).contains d || k == i || (Nat.blt k i && bitT ops i k) || (Nat.blt i k && bitT ops k i)) = true := by
    intro i o hi
    have h1 := List.all_eq_true.1 h i (List.mem_range.2 (Array.getElem?_eq_some_iff.1 hi).1)
    simp only [hi, Bool.and_eq_true] at h1
    refine ⟨h1.1, fun k o2 d hk hd => ?_⟩
    have h2 := List.all_eq_true.1 h1.2 k (List.mem_range.2 (Array.getElem?_eq_some_iff.1 hk).1)
    simp only [hk, hd, Bool.and_eq_true] at h2
    exact h2
  refine ⟨fun i o hi e he hb => ?_, fun i k d hi hk => ?_, fun i o k o2 d hi hk hd hl => ?_⟩
  · have := Array.all_eq_true_iff_forall_mem.1 (key i o hi).1 e he
    simp only [hb, Bool.not_true, Bool.false_or, Nat.blt_eq] at this
    exact this
  · unfold dstAt at hi hk
    obtain ⟨o, ho, hd⟩ := Option.bind_eq_some_iff.1 hi
    obtain ⟨o2, ho2, hd2⟩ := Option.bind_eq_some_iff.1 hk
    rw [Array.getElem?_toList] at ho ho2
    have := ((key i o ho).2 k o2 d ho2 hd2).1
    rw [hd] at this
    simpa using this
  · have := ((key i o hi).2 k o2 d hk hd).2
    have hc : (o.looksAt ops).contains d = true := by simpa using hl
    simp only [hc, Bool.not_true, Bool.false_or, Bool.or_eq_true, beq_iff_eq, Bool.and_eq_true, Nat.blt_eq] at this
    rcases this with (h1 | h1) | h1
    · exact .inl h1
    · exact .inr (.inl h1)
    · exact .inr (.inr h1)

theorem filter_le (p q : Nat → Bool) : ∀ (l : List Nat), (∀ x ∈ l, q x = true → p x = true) → (l.filter q).length ≤ (l.filter p).length
  | [], _ => Nat.le_refl _
  | x :: l, h => by
    have := filter_le p q l fun y hy => h y (by simp [hy])
    have hx := h x (by simp)
    cases hq : q x <;> cases hp : p x <;> simp_all <;> omega

theorem filter_lt (p q : Nat → Bool) : ∀ (l : List Nat), (∀ x ∈ l, q x = true → p x = true) → (∃ x ∈ l, p x = true ∧ q x = false) → (l.filter q).length < (l.filter p).length
  | [], _, h => by obtain ⟨x, hx, _⟩ := h; simp at hx
  | x :: l, h, hex => by
    obtain ⟨y, hy, hp, hq⟩ := hex
    have hle := filter_le p q l fun z hz => h z (by simp [hz])
    have hx := h x (by simp)
    rcases List.mem_cons.1 hy with rfl | hy
    · simp only [List.filter_cons, hp, hq, if_true, Bool.false_eq_true, if_false, List.length_cons]
      omega
    · have := filter_lt p q l (fun z hz => h z (by simp [hz])) ⟨y, hy, hp, hq⟩
      cases hq' : q x <;> cases hp' : p x <;> simp_all <;> omega

def frD (ops : Array Oper) (vals : List T) (fr : Nat → T) (listed : Array Bool) (t : Nat) : T :=
  match (List.range ops.size).find? fun k => dstAt ops.toList k == some t && listed.getD k false with
  | some k => vals.getD k .dead
  | none => fr t

theorem frD_in {ops : Array Oper} {vals : List T} {fr : Nat → T} {listed : Array Bool} {t k : Nat} (hu : DrawOk ops) (hd : dstAt ops.toList k = some t) (hl : listed.getD k false = true) : frD ops vals fr listed t = vals.getD k .dead := by
  unfold frD
  split
  · rename_i k' hk'
    have := List.find?_some hk'
    simp only [Bool.and_eq_true, beq_iff_eq] at this
    rw [hu.uniq k' k t this.1 hd]
  · rename_i hn
    have hlt : k < ops.size := by
      unfold dstAt at hd
      obtain ⟨o, ho, _⟩ := Option.bind_eq_some_iff.1 hd
      have := (List.getElem?_eq_some_iff.1 ho).1
      simpa using this
    have := List.find?_eq_none.1 hn k (List.mem_range.2 hlt)
    simp [hd, hl] at this

theorem frD_out {ops : Array Oper} {vals : List T} {fr : Nat → T} {listed : Array Bool} {t : Nat} (h : ∀ k, dstAt ops.toList k = some t → listed.getD k false = false) : frD ops vals fr listed t = fr t := by
  unfold frD
  split
  · rename_i k' hk'
    have := List.find?_some hk'
    simp only [Bool.and_eq_true, beq_iff_eq] at this
    rw [h k' this.1] at this
    simp at this
  · rfl

end Go.TL

/- Any order that a region may take comes to what the text's order comes to. No conditions. -/
namespace Go.TL
set_option linter.unusedSimpArgs false
open Go.RowKit

theorem st_const {st : Nat → Store} {ch : Nat → Bool} {n : Nat} (h : ∀ i, i < n → ch i = false → st (i + 1) = st i) : ∀ (k a : Nat), a + k ≤ n → (∀ j, a ≤ j → j < a + k → ch j = false) → st (a + k) = st a
  | 0, a, _, _ => rfl
  | k + 1, a, hn, hc => by
    rw [← Nat.add_assoc, h (a + k) (by omega) (hc _ (by omega) (by omega))]
    exact st_const h k a (by omega) fun j h1 h2 => hc j h1 (by omega)

theorem st_next (ch : Nat → Bool) : ∀ (k a : Nat), ∃ p, a ≤ p ∧ p ≤ a + k ∧ (∀ j, a ≤ j → j < p → ch j = false) ∧ (p < a + k → ch p = true)
  | 0, a => ⟨a, by omega, by omega, fun j h1 h2 => by omega, fun h => by omega⟩
  | k + 1, a => by
    cases hc : ch a with
    | true => exact ⟨a, by omega, by omega, fun j h1 h2 => by omega, fun _ => hc⟩
    | false =>
      obtain ⟨p, h1, h2, h3, h4⟩ := st_next ch k (a + 1)
      refine ⟨p, by omega, by omega, fun j h5 h6 => ?_, fun h => h4 (by omega)⟩
      by_cases e : j = a
      · rw [e]; exact hc
      · exact h3 j (by omega) h6

theorem st_last (ch : Nat → Bool) : ∀ (k a : Nat), (∀ j, a ≤ j → j < a + k → ch j = false) ∨ ∃ q, a ≤ q ∧ q < a + k ∧ ch q = true ∧ ∀ j, q < j → j < a + k → ch j = false
  | 0, a => .inl fun j h1 h2 => by omega
  | k + 1, a => by
    cases hc : ch (a + k) with
    | true => exact .inr ⟨a + k, by omega, by omega, hc, fun j h1 h2 => by omega⟩
    | false =>
      rcases st_last ch k a with h | ⟨q, h1, h2, h3, h4⟩
      · left
        intro j h1 h2
        by_cases e : j = a + k
        · rw [e]; exact hc
        · exact h j h1 (by omega)
      · right
        refine ⟨q, h1, by omega, h3, fun j h5 h6 => ?_⟩
        by_cases e : j = a + k
        · rw [e]; exact hc
        · exact h4 j h5 (by omega)

theorem draw_any {P : Program} {ops : Array Oper} {n : Nat} {w0 : World} {Q : Ex → (Nat → T) → Store → Prop} {st : Nat → Store} {ch : Nat → Bool} {vals : List T} {fr : Nat → T} {E0 : Env} {d : List Deferred} (hok : DrawOk ops) (hvl : vals.length = ops.toList.length)
    (hop : ∀ (i : Nat) (o : Oper), ops.toList[i]? = some o → ∃ v, vals[i]? = some v ∧ opT P ops n (frN ops.toList vals fr i) (st i) o v (st (i + 1)))
    (hstill : ∀ (i : Nat) (o : Oper), ops.toList[i]? = some o → ch i = false → st (i + 1) = st i)
    (hchain : ∀ (i j : Nat) (o : Oper), ops.toList[i]? = some o → j < i → ch i = true → ch j = true → bitT ops i j = true)
    (hpast : ∀ (i j : Nat) (o : Oper) (v : T), ops.toList[i]? = some o → vals[i]? = some v → j < i → ch i = false → ch j = true → bitT ops i j = true ∨ opT P ops n (frN ops.toList vals fr i) (st j) o v (st j))
    (hpend : ∀ (i j : Nat) (o : Oper) (v : T), ops.toList[i]? = some o → vals[i]? = some v → i < j → j < ops.toList.length → ch i = false → ch j = true → bitT ops j i = true ∨ opT P ops n (frN ops.toList vals fr i) (st (j + 1)) o v (st (j + 1)))
    (hQ : Q .normal (frN ops.toList vals fr ops.toList.length) (st ops.toList.length)) :
    ∀ (fuel : Nat) (listed : Array Bool) (E : Env) (a : Act), listed.size = ops.size → ((List.range ops.size).filter fun i => !listed.getD i true).length ≤ fuel →
      (∀ (i : Nat) (o : Oper), ops[i]? = some o → listed.getD i false = true → ∀ e ∈ o.after, Region.binds .any e = true → listed.getD e.on false = true) →
      (∃ p, p ≤ ops.size ∧ E.S = st p ∧ (∀ j, j < p → ch j = true → listed.getD j false = true) ∧ (p < ops.size → ch p = true ∧ listed.getD p false = false)) → Evo E0 E → Inv E w0 → FR E n (frD ops vals fr listed) a → a.defers = d → wpAny P .any ops (Post E0 w0 n d Q) fuel listed a E.w := by
  intro fuel
  have hgd : ∀ (listed : Array Bool) (i : Nat), i < listed.size → listed.getD i true = listed.getD i false := by
    intro listed i hi
    simp [Array.getD_eq_getD_getElem?, Array.getElem?_eq_getElem hi]
  have hall : ∀ (listed : Array Bool), listed.size = ops.size → Region.ready .any ops listed = [] → ∀ i, i < ops.size → listed.getD i false = true := by
    intro listed hsz hr i
    induction i using Nat.strongRecOn with
    | _ i ih =>
      intro hi
      by_cases hl : listed.getD i false = true
      · exact hl
      · have hmem : i ∈ Region.ready .any ops listed := by
          unfold Region.ready
          refine List.mem_filter.2 ⟨List.mem_range.2 hi, ?_⟩
          have ho : ops[i]? = some ops[i] := Array.getElem?_eq_getElem hi
          rw [hgd listed i (by omega), ho]
          simp only [Bool.and_eq_true, Bool.not_eq_true', Option.map_some, Option.getD_some, Array.all_eq_true_iff_forall_mem]
          refine ⟨by simpa using hl, fun e he => ?_⟩
          cases hb : Region.binds .any e with
          | false => rfl
          | true =>
            have hlt := hok.down i _ ho e he hb
            simpa using ih e.on hlt (by omega)
        rw [hr] at hmem
        simp at hmem
  have fin : ∀ (listed : Array Bool) (E : Env) (a : Act), listed.size = ops.size → Region.ready .any ops listed = [] → (∃ p, p ≤ ops.size ∧ E.S = st p ∧ (∀ j, j < p → ch j = true → listed.getD j false = true) ∧ (p < ops.size → ch p = true ∧ listed.getD p false = false)) → Evo E0 E → Inv E w0 → FR E n (frD ops vals fr listed) a → a.defers = d → Post E0 w0 n d Q .normal a E.w := by
    intro listed E a hsz hr hS hev hI hF hd
    have hl := hall listed hsz hr
    have hfr : frD ops vals fr listed = frN ops.toList vals fr ops.toList.length := by
      funext t
      by_cases hx : ∃ k, dstAt ops.toList k = some t
      · obtain ⟨k, hk⟩ := hx
        have hlt : k < ops.size := by
          unfold dstAt at hk
          obtain ⟨o, ho, _⟩ := Option.bind_eq_some_iff.1 hk
          simpa using (List.getElem?_eq_some_iff.1 ho).1
        have hkv : k < vals.length := by rw [hvl]; simpa using hlt
        rw [frD_in hok hk (hl k hlt), frN_in ops.toList vals fr _ k t vals[k] hvl (by simpa using hlt) hk (List.getElem?_eq_getElem hkv) (fun k' hk' hd' => hk' (hok.uniq k k' t hk hd'))]
        simp [List.getD_eq_getElem?_getD, List.getElem?_eq_getElem hkv]
      · rw [frD_out fun k hk => absurd ⟨k, hk⟩ hx, frN_out _ _ _ _ _ fun k _ hk => hx ⟨k, hk⟩]
    rw [hfr] at hF
    have hSn : E.S = st ops.toList.length := by
      obtain ⟨p, h1, h2, _, h4⟩ := hS
      rw [h2]
      congr 1
      rcases Nat.lt_or_ge p ops.size with hlt | hge
      · have := (h4 hlt).2
        rw [hl p hlt] at this
        cases this
      · simp; omega
    exact ⟨.normal, _, E, rfl, by rw [hSn]; exact hQ, rfl, hI, hev, hF, hd⟩
  induction fuel with
  | zero =>
    intro listed E a hsz hc hcl hS hev hI hF hd
    have hnil : Region.ready .any ops listed = [] := by
      unfold Region.ready
      refine List.filter_eq_nil_iff.2 fun i hi hh => ?_
      have h0 : ((List.range ops.size).filter fun i => !listed.getD i true) = [] := List.eq_nil_of_length_eq_zero (by omega)
      have := List.filter_eq_nil_iff.1 h0 i hi
      simp only [Bool.and_eq_true] at hh
      exact this hh.1
    exact ⟨hnil, fin listed E a hsz hnil hS hev hI hF hd⟩
  | succ fuel ih =>
    intro listed E a hsz hc hcl hS hev hI hF hd
    refine ⟨fun hnil => fin listed E a hsz hnil hS hev hI hF hd, fun i hi => ?_⟩
    unfold Region.ready at hi
    obtain ⟨hir, hi⟩ := List.mem_filter.1 hi
    have hilt := List.mem_range.1 hir
    have ho : ops[i]? = some ops[i] := Array.getElem?_eq_getElem hilt
    simp only [Bool.and_eq_true, ho, Option.map_some, Option.getD_some, Array.all_eq_true_iff_forall_mem] at hi
    obtain ⟨hun, haft⟩ := hi
    have hunl : listed.getD i false = false := by
      rw [← hgd listed i (by omega)]; simpa using hun
    have haft' : ∀ e ∈ ops[i].after, Region.binds .any e = true → listed.getD e.on false = true := by
      intro e he hb
      have := haft e he
      rw [hb] at this
      simpa using this
    have hol : ops.toList[i]? = some ops[i] := by rw [Array.getElem?_toList]; exact ho
    obtain ⟨v, hv, hopi⟩ := hop i ops[i] hol
    have hclosed : ∀ i j, listed.getD i false = true → bitT ops i j = true → listed.getD j false = true := bit_closed (ls := fun i => listed.getD i false = true) hcl
    have hahead : ∀ j, bitT ops i j = true → listed.getD j false = true := by
      intro j hb
      obtain ⟨o1, ho1, e, he, hbi, h⟩ := bit_edge hb
      rw [ho] at ho1
      cases ho1
      have := haft' e he hbi
      rcases h with rfl | ⟨_, h2⟩
      · exact this
      · exact hclosed _ j this h2
    have hstc : ∀ i, i < ops.size → ch i = false → st (i + 1) = st i := fun k hk hc => hstill k ops[k] (by rw [Array.getElem?_toList]; exact Array.getElem?_eq_getElem hk) hc
    -- the operation at the roots that are there
    obtain ⟨p, hp1, hp2, hp3, hp4⟩ := hS
    obtain ⟨S', hopS, hS'⟩ : ∃ S', opT P ops n (frN ops.toList vals fr i) E.S ops[i] v S' ∧ ∀ E' : Env, E'.S = S' → ∃ p, p ≤ ops.size ∧ E'.S = st p ∧ (∀ j, j < p → ch j = true → (listed.setIfInBounds i true).getD j false = true) ∧ (p < ops.size → ch p = true ∧ (listed.setIfInBounds i true).getD p false = false) := by
      have hget : ∀ k, (listed.setIfInBounds i true).getD k false = if k = i then true else listed.getD k false := by
        intro k
        rw [Array.getD_eq_getD_getElem?, Array.getElem?_setIfInBounds]
        by_cases hk : i = k
        · subst hk; simp [hsz, hilt]
        · rw [if_neg hk, if_neg (Ne.symm hk), Array.getD_eq_getD_getElem?]
      cases hci : ch i with
      | true =>
        have hpi : p = i := by
          rcases Nat.lt_trichotomy p i with h | h | h
          · have h4 := hp4 (by omega)
            have := hahead p (hchain i p ops[i] hol h hci h4.1)
            rw [h4.2] at this; cases this
          · exact h
          · have := hp3 i h hci
            rw [hunl] at this; cases this
        subst hpi
        refine ⟨st (p + 1), by rw [hp2]; exact hopi, fun E' hE' => ?_⟩
        obtain ⟨q, h1, h2, h3, h4⟩ := st_next ch (ops.size - (p + 1)) (p + 1)
        refine ⟨q, by omega, ?_, fun j hj hc => ?_, fun hq => ?_⟩
        · rw [hE']
          have := st_const hstc (q - (p + 1)) (p + 1) (by omega) (fun j h5 h6 => h3 j h5 (by omega))
          rw [show p + 1 + (q - (p + 1)) = q by omega] at this
          exact this.symm
        · rw [hget]
          split
          · rfl
          · rename_i hne
            rcases Nat.lt_or_ge j p with h5 | h5
            · exact hp3 j h5 hc
            · rw [h3 j (by omega) hj] at hc; cases hc
        · have hcq := h4 (by omega)
          refine ⟨hcq, ?_⟩
          rw [hget, if_neg (by omega)]
          cases hlq : listed.getD q false with
          | false => rfl
          | true =>
            have := hclosed q p hlq (hchain q p ops[q] (by rw [Array.getElem?_toList]; exact Array.getElem?_eq_getElem hq) (by omega) hcq hci)
            rw [hunl] at this; cases this
      | false =>
        refine ⟨st p, ?_, fun E' hE' => ⟨p, hp1, hE', fun j hj hc => ?_, fun hq => ⟨(hp4 hq).1, ?_⟩⟩⟩
        · rw [hp2]
          have hopi' := hopi
          rw [hstc i hilt hci] at hopi'
          rcases Nat.lt_trichotomy p i with h | h | h
          · have h4 := hp4 (by omega)
            rcases hpast i p ops[i] v hol hv h hci h4.1 with h5 | h5
            · have := hahead p h5
              rw [h4.2] at this; cases this
            · exact h5
          · have h4 := hp4 (by omega)
            rw [h, hci] at h4
            cases h4.1
          · rcases st_last ch (p - (i + 1)) (i + 1) with h5 | ⟨q, h5, h6, h7, h8⟩
            · have := st_const hstc (p - (i + 1)) (i + 1) (by omega) h5
              rw [show i + 1 + (p - (i + 1)) = p by omega, hstc i hilt hci] at this
              rw [this]
              exact hopi'
            · have := st_const hstc (p - (q + 1)) (q + 1) (by omega) (fun j h9 h10 => h8 j (by omega) (by omega))
              rw [show q + 1 + (p - (q + 1)) = p by omega] at this
              rw [this]
              have hlq := hp3 q (by omega) h7
              rcases hpend i q ops[i] v hol hv (by omega) (by simp; omega) hci h7 with h9 | h9
              · have := hclosed q i hlq h9
                rw [hunl] at this; cases this
              · exact h9
        · rw [hget]
          split
          · rfl
          · exact hp3 j hj hc
        · rw [hget, if_neg]
          · exact (hp4 hq).2
          · rintro rfl
            have := (hp4 hq).1
            rw [hci] at this; cases this
    have hagree : ∀ x ∈ ops[i].looksAt ops, frN ops.toList vals fr i x = frD ops vals fr listed x := by
      intro x hx
      by_cases hw : ∃ k, dstAt ops.toList k = some x
      · obtain ⟨k, hk⟩ := hw
        have hk' := hk
        unfold dstAt at hk'
        obtain ⟨o2, ho2, hd2⟩ := Option.bind_eq_some_iff.1 hk'
        rw [Array.getElem?_toList] at ho2
        have hklt := (Array.getElem?_eq_some_iff.1 ho2).1
        have hkv : k < vals.length := by rw [hvl]; simpa using hklt
        rcases hok.looks i ops[i] k o2 x ho ho2 hd2 hx with rfl | ⟨hlt, he⟩ | ⟨hlt, he⟩
        · rw [frD_out fun k' hk' => by rw [hok.uniq k k' x hk hk']; exact hunl, frN_out _ _ _ _ _ fun k' hlt hk' => by have := hok.uniq k k' x hk hk'; omega]
        · rw [frD_in hok hk (hahead k he), frN_in ops.toList vals fr i k x vals[k] hvl hlt hk (List.getElem?_eq_getElem hkv) (fun k' hk' hd' => hk' (hok.uniq k k' x hk hd'))]
          simp [List.getD_eq_getElem?_getD, List.getElem?_eq_getElem hkv]
        · have hl : listed.getD k false = false := by
            cases hlk : listed.getD k false with
            | false => rfl
            | true =>
              have := hclosed k i hlk he
              rw [hunl] at this
              cases this
          rw [frD_out fun k' hk' => by rw [hok.uniq k k' x hk hk']; exact hl, frN_out _ _ _ _ _ fun k' hlt' hk' => by have := hok.uniq k k' x hk hk'; omega]
      · rw [frD_out fun k hk => absurd ⟨k, hk⟩ hw, frN_out _ _ _ _ _ fun k _ hk => hw ⟨k, hk⟩]
    have hopD := opT_congr hagree hopS
    refine opT_sound ho hI hF hopD fun E' v' hSE hI' hE' hT' hd' => ?_
    have hsz' : (listed.setIfInBounds i true).size = ops.size := by simpa using hsz
    have hget : ∀ k, (listed.setIfInBounds i true).getD k false = if k = i then true else listed.getD k false := by
      intro k
      rw [Array.getD_eq_getD_getElem?, Array.getElem?_setIfInBounds]
      by_cases hk : i = k
      · subst hk; simp [hsz, hilt]
      · rw [if_neg hk, if_neg (Ne.symm hk), Array.getD_eq_getD_getElem?]
    have hfr : frD ops vals fr (listed.setIfInBounds i true) = put (frD ops vals fr listed) ops[i].dst v := by
      funext t
      by_cases ht : ops[i].dst = some t
      · have hdi : dstAt ops.toList i = some t := by unfold dstAt; rw [Array.getElem?_toList, ho]; exact ht
        rw [frD_in hok hdi (by rw [hget, if_pos rfl]), ht]
        simp [put, upd, List.getD_eq_getElem?_getD, hv]
      · rw [put_ne ht]
        by_cases hx : ∃ k, dstAt ops.toList k = some t ∧ listed.getD k false = true
        · obtain ⟨k, hk, hl⟩ := hx
          rw [frD_in hok hk hl, frD_in hok hk (by rw [hget]; split <;> simp [hl])]
        · rw [frD_out (listed := listed) fun k hk => by
            cases hl : listed.getD k false with
            | false => rfl
            | true => exact absurd ⟨k, hk, hl⟩ hx]
          rw [frD_out fun k hk => ?_]
          rw [hget]
          have hki : k ≠ i := by
            rintro rfl
            unfold dstAt at hk
            rw [Array.getElem?_toList, ho] at hk
            exact ht hk
          rw [if_neg hki]
          cases hl : listed.getD k false with
          | false => rfl
          | true => exact absurd ⟨k, hk, hl⟩ hx
    refine ih (listed.setIfInBounds i true) E' (a.put ops[i].dst v') hsz' ?_ ?_ (hS' E' hSE) (hev.trans hE') hI' ?_ (by rw [Act.put_defers]; exact hd)
    · have hlt := filter_lt (fun i => !listed.getD i true) (fun k => !(listed.setIfInBounds i true).getD k true) (List.range ops.size) (fun x hx hq => by
          have hxl := List.mem_range.1 hx
          rw [hgd _ x (by omega), hget] at hq
          rw [hgd listed x (by omega)]
          by_cases hxi : x = i
          · rw [if_pos hxi] at hq; simp at hq
          · rw [if_neg hxi] at hq; exact hq) ⟨i, hir, hun, by rw [hgd _ i (by omega), hget, if_pos rfl]; rfl⟩
      omega
    · intro k o hk hl e he hb
      rw [hget] at hl ⊢
      by_cases hei : e.on = i
      · rw [if_pos hei]
      · rw [if_neg hei]
        by_cases hki : k = i
        · subst hki
          rw [ho] at hk
          cases hk
          exact haft' e he hb
        · rw [if_neg hki] at hl
          exact hcl k o hk hl e he hb
    · rw [hfr]
      exact (hF.evo hE').put hd' hT'

theorem drew_evo (E : Env) : Evo E { E with w := E.w.drew } :=
  ⟨rfl, rfl, rfl, Nat.le_refl _, fun _ _ h => ⟨h, rfl⟩, fun _ _ _ cs' _ h => ⟨⟨cs', h⟩, rfl, fun arr _ _ h => ⟨arr, h, rfl⟩⟩⟩

theorem drew_inv {E : Env} {w0 : World} (h : Inv E w0) : Inv { E with w := E.w.drew } w0 := by
  refine ⟨h.below.drew, h.hB, h.hN, fun r p e cs hx => ?_, h.inj, h.frz⟩
  obtain ⟨arr, ty, mk, a1, a2, a3, a4, a5⟩ := h.blk r p e cs hx
  exact ⟨arr, ty, mk, a1, a2, a3, a4, fun j c hc => (a5 j c hc).evo (drew_evo E) (fun b arr ty mk h => ⟨arr, h, rfl⟩) (fun _ _ _ _ _ => rfl)⟩

/-- A region whose order is drawn. -/
theorem W.draw {P : Program} {M n id : Nat} {ops : Array Oper} {Q : Ex → (Nat → T) → Store → Prop} {fr : Nat → T} {S : Store} (hm : P.follows .mixedOrders = true) (hok : drawOk ops = true) (hw : wpOpsT P ops n (.any 0 [] []) ops.toList (Q .normal) fr S) : W P M n (.region id ops true) Q fr S := by
  intro E a E0 w0 _ hS hev hI hF
  obtain ⟨vals, st, ch, h1, h2, h3, h4, h5, h6, _, h8, _, h10, _⟩ := walk_tells ops.toList _ fr S 0 [] [] rfl hw
  simp only [Nat.zero_add] at h6 h8 h10
  have hstart : ∀ i, (Array.replicate ops.size false).getD i false = false := by
    intro i
    rw [Array.getD_eq_getD_getElem?, Array.getElem?_replicate]
    split <;> rfl
  have hstc : ∀ i, i < ops.size → ch i = false → st (i + 1) = st i := fun k hk hc => h5 k ops[k] (by rw [Array.getElem?_toList]; exact Array.getElem?_eq_getElem hk) hc
  refine wp_region_any hm ?_
  refine draw_any (DrawOk.of hok) h1 h4 h5 h6 h8 h10 h3 ops.size (Array.replicate ops.size false) { E with w := E.w.drew } a (by simp) ?_ (fun i o _ hl => ?_) ?_ (hev.trans (drew_evo E)) (drew_inv hI) ?_ rfl
  · exact Nat.le_trans (List.length_filter_le _ _) (by simp)
  · rw [hstart] at hl; cases hl
  · obtain ⟨p, k1, k2, k3, k4⟩ := st_next ch ops.size 0
    refine ⟨p, by omega, ?_, fun j hj hc => ?_, fun hp => ⟨k4 (by omega), hstart p⟩⟩
    · have := st_const hstc p 0 (by omega) (fun j _ h => k3 j (by omega) (by omega))
      rw [Nat.zero_add] at this
      rw [this, h2]
      exact hS
    · rw [k3 j (by omega) hj] at hc; cases hc
  · have hfr : frD ops vals fr (Array.replicate ops.size false) = fr := by
      funext t
      exact frD_out fun k _ => hstart k
    rw [hfr]
    exact hF.evo (drew_evo E)

end Go.TL

/- What a caller lends to a callee, and what comes back under the caller's own numbers. No conditions. -/
namespace Go.TL
set_option linter.unusedSimpArgs false
open Go.RowKit

mutual
/-- A check of all leaves. -/
def allT (f : T → Bool) : T → Bool
  | .sl true _ _ _ cs => allTs f cs
  | .agg cs => allTs f cs
  | .tup cs => allTs f cs
  | .clo _ cs => allTs f cs
  | t => f t
def allTs (f : T → Bool) : List T → Bool
  | [] => true
  | c :: cs => allT f c && allTs f cs
end

theorem allTs_at {f : T → Bool} : ∀ (cs : List T), allTs f cs = true → ∀ (j : Nat) (c : T), cs[j]? = some c → allT f c = true
  | [], _, j, c, hc => by simp at hc
  | d :: cs, h, j, c, hc => by
    simp only [allTs, Bool.and_eq_true] at h
    cases j with
    | zero => simp at hc; subst hc; exact h.1
    | succ j => exact allTs_at cs h.2 j c (by simpa using hc)

theorem allTs_cellsAt {f : T → Bool} {any : Bool} : ∀ (p : List Nat) (e : Nat) (cs : List T) (x : Nat × List T), allTs f cs = true → cellsAt any e cs p = some x → allTs f x.2 = true
  | [], e, cs, x, h, hx => by simp only [cellsAt, Option.some.injEq] at hx; subst hx; exact h
  | c :: p, e, cs, x, h, hx => by
    unfold cellsAt at hx
    split at hx
    · rename_i k n e' cs' hc
      split at hx
      · have := allTs_at cs h c _ hc
        exact allTs_cellsAt p e' cs' x (by simpa [allT] using this) hx
      · cases hx
    · cases hx

/-- Leaves that can be seen as frozen. -/
def leafFz : T → Bool
  | .v _ => true
  | .sl false _ _ _ _ => true
  | _ => false
/-- Leaves that are no frozen tree of the tag that was lent. -/
def leafFree (L : Nat) : T → Bool
  | .sl false k _ _ _ => k != L
  | .pz k _ _ => k != L
  | _ => true
/-- Leaves that are no reference. -/
def leafNoRef : T → Bool
  | .ref _ _ _ _ => false
  | _ => true

mutual
/-- Other numbers for the roots. -/
def ren (g : Nat → Nat) : T → T
  | .sl true k n e cs => .sl true k n e (rens g cs)
  | .ref r p off n => .ref (g r) p off n
  | .ptr r p off => .ptr (g r) p off
  | .agg cs => .agg (rens g cs)
  | .tup cs => .tup (rens g cs)
  | .clo f cs => .clo f (rens g cs)
  | t => t
def rens (g : Nat → Nat) : List T → List T
  | [] => []
  | c :: cs => ren g c :: rens g cs
end

theorem rens_map (g : Nat → Nat) : ∀ cs : List T, rens g cs = cs.map (ren g)
  | [] => rfl
  | c :: cs => by rw [rens, rens_map g cs]; rfl

theorem rens_length (g : Nat → Nat) (cs : List T) : (rens g cs).length = cs.length := by rw [rens_map, List.length_map]

theorem cellsAt_rens (g : Nat → Nat) (any : Bool) : ∀ (p : List Nat) (e : Nat) (cs : List T), cellsAt any e (rens g cs) p = (cellsAt any e cs p).map fun x => (x.1, rens g x.2)
  | [], e, cs => rfl
  | c :: p, e, cs => by
    unfold cellsAt
    rw [rens_map, List.getElem?_map]
    cases hc : cs[c]? with
    | none => rfl
    | some t =>
      cases t with
      | sl own k n e' cs' =>
        cases own with
        | false => rfl
        | true =>
          simp only [Option.map_some, ren]
          split
          · exact cellsAt_rens g any p e' cs'
          · rfl
      | _ => rfl

def Root.ren (g : Nat → Nat) (x : Root) : Root := ⟨x.e, x.live, rens g x.cs⟩

/-- The caller's number for a root of the callee. -/
def backId (ρ : List Nat) (n : Nat) (i : Nat) : Nat := match ρ[i]? with | some r => r | none => n + (i - ρ.length)

/-- The caller's roots behind a call. -/
def backS (ρ : List Nat) (S S1 : Store) : Store :=
  S.zipIdx.map (fun x => match ρ.idxOf? x.2 with | some i => Root.ren (backId ρ S.length) ((S1[i]?).getD ⟨0, false, []⟩) | none => x.1) ++ (S1.drop ρ.length).map (Root.ren (backId ρ S.length))

mutual
/-- Own rows within cells, seen as frozen. -/
def zn : T → T
  | .sl true _ n e cs => .sl false 0 n e (zns cs)
  | t => t
def zns : List T → List T
  | [] => []
  | c :: cs => zn c :: zns cs
end
theorem zns_map : ∀ cs : List T, zns cs = cs.map zn
  | [] => rfl
  | c :: cs => by rw [zns, zns_map cs]; rfl
theorem zns_length (cs : List T) : (zns cs).length = cs.length := by rw [zns_map, List.length_map]

mutual
/-- What the callee sees of an argument: 'some' is sound. -/
def lendT (rt : Bool) (S : Store) (ρ : List Nat) (L : Nat) : T → Option T
  | .v x => some (.v x)
  | .sl false k n e cs => some (.sl false (if rt = true then L else k) n e cs)
  | .sl true _ _ _ _ => none
  | .ref r p off n => match ρ.idxOf? r with
    | some i => some (.ref i p off n)
    | none => match S.at false r p with
      | some (e, cs) => if allTs leafFz cs = true ∧ off + n * e ≤ cs.length then some (.sl false L n e (zns ((cs.drop off).take (n * e)))) else none
      | none => none
  | .ptr r p off => match ρ.idxOf? r with
    | some i => some (.ptr i p off)
    | none => match S.at false r p with
      | some (_, cs) => if allTs leafFz cs = true then some (.pz L (zns cs) off) else none
      | none => none
  | .pz k cs off => some (.pz (if rt = true then L else k) cs off)
  | .agg cs => (lendTs rt S ρ L cs).map .agg
  | .tup cs => (lendTs rt S ρ L cs).map .tup
  | .clo f cs => (lendTs rt S ρ L cs).map (.clo f)
  | .dead => some .dead
def lendTs (rt : Bool) (S : Store) (ρ : List Nat) (L : Nat) : List T → Option (List T)
  | [] => some []
  | c :: cs => match lendT rt S ρ L c, lendTs rt S ρ L cs with
    | some x, some xs => some (x :: xs)
    | _, _ => none
end

theorem lendTs_at {rt : Bool} {S : Store} {ρ : List Nat} {L : Nat} : ∀ (cs xs : List T), lendTs rt S ρ L cs = some xs → xs.length = cs.length ∧ ∀ (j : Nat) (x : T), xs[j]? = some x → ∃ c, cs[j]? = some c ∧ lendT rt S ρ L c = some x
  | [], xs, h => by simp only [lendTs, Option.some.injEq] at h; subst h; exact ⟨rfl, fun j x hx => by simp at hx⟩
  | c :: cs, xs, h => by
    unfold lendTs at h
    split at h
    · rename_i y ys hy hys
      cases h
      obtain ⟨h1, h2⟩ := lendTs_at cs ys hys
      refine ⟨by simp [h1], fun j x hx => ?_⟩
      cases j with
      | zero => simp at hx; subst hx; exact ⟨c, rfl, hy⟩
      | succ j => obtain ⟨d, hd, he⟩ := h2 j x (by simpa using hx); exact ⟨d, by simpa using hd, he⟩
    · cases h

end Go.TL

/- A call's contract over a few roots holds over more roots. No conditions. -/
namespace Go.TL
set_option linter.unusedSimpArgs false
open Go.RowKit

theorem backS_length (ρ : List Nat) (S S1 : Store) : (backS ρ S S1).length = S.length + (S1.length - ρ.length) := by
  simp [backS]

/-- What fits: which roots go over, and that they do. -/
structure Fits (S : Store) (ρ : List Nat) (S0 : Store) : Prop where
  len : ρ.length = S0.length
  nodup : ρ.Nodup
  lt : ∀ r ∈ ρ, r < S.length
  eq : S0 = gcS ρ S

def Env.to (E : Env) (ρ : List Nat) (S0 : Store) (L : Nat) : Env :=
  { w := E.w, S := S0, φ := fun i p => E.φ (ρ.getD i 0) p, B := E.B, N := E.w.heap.size, K := fun k b => k = L ∨ E.okz k b ∨ (k = 0 ∧ ∃ r p x, r ∈ ρ ∧ E.S.at true r p = some x ∧ E.φ r p = b) }

section
variable {E : Env} {w0 : World} {ρ : List Nat} {S0 : Store} {L : Nat}

theorem to_at (hf : Fits E.S ρ S0) {any : Bool} {i : Nat} {p : List Nat} {x : Nat × List T} (hx : (E.to ρ S0 L).S.at any i p = some x) :
    ∃ r x1, ρ[i]? = some r ∧ E.S.at any r p = some x1 ∧ x = (x1.1, gcTs ρ x1.2) ∧ (E.to ρ S0 L).φ i p = E.φ r p := by
  have hx' : (E.gc ρ).S.at any i p = some x := by
    have := hf.eq
    subst this
    exact hx
  obtain ⟨r, x1, hr, h1, h2⟩ := gc_at_of hf.lt hx'
  exact ⟨r, x1, hr, h1, h2, by simp [Env.to, List.getD_eq_getElem?_getD, hr]⟩

theorem to_at' (hf : Fits E.S ρ S0) {any : Bool} {i r : Nat} (hr : ρ[i]? = some r) (p : List Nat) : (E.to ρ S0 L).S.at any i p = (E.S.at any r p).map fun x => (x.1, gcTs ρ x.2) := by
  have := hf.eq
  subst this
  exact gc_at hf.lt hr p

theorem to_own (hf : Fits E.S ρ S0) {b : Nat} (h : (E.to ρ S0 L).own b) : E.own b := by
  obtain ⟨i, p, x, hx, hb⟩ := h
  obtain ⟨r, x1, _, h2, _, h3⟩ := to_at hf hx
  exact ⟨r, p, x1, h2, h3.symm.trans hb⟩

theorem to_okz (hf : Fits E.S ρ S0) {k b : Nat} (h : E.okz k b) : (E.to ρ S0 L).okz k b :=
  ⟨h.1, fun ho => h.2.1 (to_own hf ho), fun _ => .inr (.inl h)⟩

theorem to_okL {b : Nat} (h1 : b < E.w.heap.size) (h2 : ¬ (E.to ρ S0 L).own b) : (E.to ρ S0 L).okz L b := ⟨h1, h2, fun _ => .inl rfl⟩

theorem to_hidden (h : Inv E w0) (hf : Fits E.S ρ S0) {r : Nat} {p : List Nat} {x : Nat × List T} (hx : E.S.at true r p = some x) (hr : r ∉ ρ) : (E.to ρ S0 L).okz L (E.φ r p) := by
  refine to_okL (Env.own_lt h ⟨r, p, x, hx, rfl⟩).2 ?_
  rintro ⟨i, q, y, hy, hb⟩
  obtain ⟨r', x1, h1, h2, _, h3⟩ := to_at hf hy
  have := h.inj _ _ _ _ _ _ h2 hx (h3.symm.trans hb)
  exact hr (this.1 ▸ List.mem_of_getElem? h1)

theorem to_inv (h : Inv E w0) (hf : Fits E.S ρ S0) : Inv (E.to ρ S0 L) E.w := by
  refine ⟨Below.refl _ _, ⟨Nat.le_trans h.hB.1 h.below.size, h.hB.2.mono h.below⟩, Nat.le_refl _, fun i p e cs hx => ?_, fun i p x i' p' x' hx hx' hb => ?_, fun i p x hx _ => ?_⟩
  · obtain ⟨r, x1, h1, h2, h4, h3⟩ := to_at hf hx
    simp only [Prod.mk.injEq] at h4
    obtain ⟨rfl, rfl⟩ := h4
    obtain ⟨arr, ty, mk, a1, a2, a3, a4, a5⟩ := h.blk r p x1.1 x1.2 h2
    refine ⟨arr, ty, mk, by rw [h3]; exact a1, by rw [gcTs_length]; exact a2, a3, by rw [h3]; exact a4, fun j c hc => ?_⟩
    rw [gcTs_map, List.getElem?_map] at hc
    obtain ⟨c1, hc1, rfl⟩ := Option.map_eq_some_iff.1 hc
    cases a5 j c1 hc1 with
    | v _ hv => exact .v _ hv
    | fz hz => exact .fz (hz.evo fun b hb => ⟨to_okz hf hb, rfl⟩)
    | own hn hv =>
      refine .own (by rw [gcTs_length]; exact hn) ?_
      have : (E.to ρ S0 L).φ i (p ++ [j]) = E.φ r (p ++ [j]) := by simp [Env.to, List.getD_eq_getElem?_getD, h1]
      rw [this]; exact hv
    | ref hv ht =>
      simp only [gcT]
      split
      · rename_i k hk
        refine .ref hv ?_
        have hri := idx_at hk
        cases ht with
        | ref hr hh =>
          refine .ref (by have := (List.getElem?_eq_some_iff.1 hri).1; rw [hf.len] at this; exact this) fun e2 cs2 hx2 => ?_
          rw [to_at' hf hri] at hx2
          obtain ⟨x2, h5, h6⟩ := Option.map_eq_some_iff.1 hx2
          simp only [Prod.mk.injEq] at h6
          obtain ⟨rfl, rfl⟩ := h6
          have := hh x2.1 x2.2 h5
          simp only [Env.to, List.getD_eq_getElem?_getD, hri, Option.getD_some]
          exact this
      · exact .dead _ hv
    | dead _ hv => exact .dead _ hv
  · obtain ⟨r, x1, h1, h2, _, h3⟩ := to_at hf hx
    obtain ⟨r', x1', h1', h2', _, h3'⟩ := to_at hf hx'
    obtain ⟨e1, e2⟩ := h.inj _ _ _ _ _ _ h2 h2' (h3.symm.trans (hb.trans h3'))
    subst e1
    exact ⟨(List.getElem?_inj (by rw [hf.len]; exact Store.at_lt hx) hf.nodup).1 (h1.trans h1'.symm), e2⟩
  · obtain ⟨r, x1, h1, h2, _, h3⟩ := to_at hf hx
    exact .inr (.inr ⟨rfl, r, p, x1, List.mem_of_getElem? h1, h2, h3.symm⟩)

/-- Own cells, seen as frozen. -/
theorem fz_cells (h : Inv E w0) (hf : Fits E.S ρ S0) {r : Nat} (hr : r ∉ ρ) : ∀ (c : T) (p : List Nat) (j : Nat) (e : Nat) (cs : List T) (v : Value), E.S.at true r p = some (e, cs) → cs[j]? = some c → CR E r p j c v → allT leafFz c = true →
    FzR E.w ((E.to ρ S0 L).okz L) c v
  | .v x, p, j, e, cs, v, hn, hc, hcr, _ => by cases hcr with | v _ hv => exact .v _ hv
  | .sl false k n e1 cs1, p, j, e, cs, v, hn, hc, hcr, _ => by
    cases hcr with
    | fz hz => exact hz.evo fun b hb => ⟨to_okL hb.1 fun ho => hb.2.1 (to_own hf ho), rfl⟩
  | .sl true k n e1 cs1, p, j, e, cs, v, hn, hc, hcr, hz => by
    cases hcr with
    | own hn1 hv =>
      have hat : E.S.at true r (p ++ [j]) = some (e1, cs1) := by
        rw [Store.at_append, hn]
        simp [cellsAt, hc]
      obtain ⟨arr, ty, mk, a1, a2, a3, a4, a5⟩ := h.blk r (p ++ [j]) e1 cs1 hat
      obtain ⟨cap, arr', ty', mk', b1, b2, b3, rfl⟩ := hv
      have hzs : allTs leafFz cs1 = true := by simpa [allT] using hz
      refine .sl (E.φ r (p ++ [j])) 0 (fun j => arr.getD j undef) hn1 b2 (.inr ⟨rfl, to_hidden h hf hat hr⟩) (fun i c hi => ?_) (fun i c hi => ?_)
      · have hlt := (List.getElem?_eq_some_iff.1 hi).1
        rw [cell_of_row _ _ _ _ _ _ a1, Array.getD_eq_getD_getElem?, Array.getElem?_eq_getElem (by omega)]
        simp [Array.getElem?_eq_getElem (show i < arr.size by omega)]
      · exact fz_cells h hf hr c (p ++ [j]) i e1 cs1 _ hat hi (a5 i c hi) (allTs_at cs1 hzs i c hi)
  | .ref _ _ _ _, _, _, _, _, _, _, _, _, hz => by simp [allT, leafFz] at hz
  | .ptr _ _ _, _, _, _, _, _, _, _, _, hz => by simp [allT, leafFz] at hz
  | .pz _ _ _, _, _, _, _, _, _, _, _, hz => by simp [allT, leafFz] at hz
  | .agg _, _, _, _, _, _, _, _, hcr, _ => by cases hcr
  | .tup _, _, _, _, _, _, _, _, hcr, _ => by cases hcr
  | .clo _ _, _, _, _, _, _, _, _, hcr, _ => by cases hcr
  | .dead, _, _, _, _, _, _, _, _, hz => by simp [allT, leafFz] at hz
termination_by c => SizeOf.sizeOf c
decreasing_by
  have h1 := List.mem_of_getElem? hi
  have h2 := List.sizeOf_lt_of_mem h1
  simp only [T.sl.sizeOf_spec]
  omega

/-- What the callee sees of an argument is so. -/
theorem FzR.tag {w : World} {ok : Nat → Prop} {o o' : Bool} {k k' n e : Nat} {cs : List T} {v : Value} (h : FzR w ok (.sl o k n e cs) v) : FzR w ok (.sl o' k' n e cs) v := by
  cases h with
  | sl b off f hn hc ha hcell hrec => exact .sl b off f hn hc ha hcell hrec

theorem fz_zn {w : World} {ok : Nat → Prop} : ∀ (t : T) (v : Value), FzR w ok t v → FzR w ok (zn t) v
  | .sl true k n e cs, v, h => by
    cases h with
    | sl b off f hn hc ha hcell hrec =>
      rw [zn]
      refine .sl b off f (by rw [zns_length]; exact hn) hc (ha.imp (fun h => by rw [h]; rfl) fun h => h) (fun j c hj => ?_) (fun j c hj => ?_)
      all_goals
        rw [zns_map, List.getElem?_map] at hj
        obtain ⟨c0, hc0, rfl⟩ := Option.map_eq_some_iff.1 hj
      · exact hcell j c0 hc0
      · exact fz_zn c0 _ (hrec j c0 hc0)
  | .sl false _ _ _ _, v, h => h
  | .v _, v, h => h
  | .ref _ _ _ _, v, h => h
  | .ptr _ _ _, v, h => h
  | .pz _ _ _, v, h => h
  | .agg _, v, h => h
  | .tup _, v, h => h
  | .clo _ _, v, h => h
  | .dead, v, h => h
termination_by t => SizeOf.sizeOf t
decreasing_by
  have h1 := List.mem_of_getElem? hc0
  have h2 := List.sizeOf_lt_of_mem h1
  simp only [T.sl.sizeOf_spec]
  omega
theorem fz_zns {w : World} {ok : Nat → Prop} {o : Bool} {k n e : Nat} {cs : List T} {v : Value} (h : FzR w ok (.sl o k n e cs) v) : FzR w ok (.sl o k n e (zns cs)) v := by
  cases h with
  | sl b off f hn hc ha hcell hrec =>
    refine .sl b off f (by rw [zns_length]; exact hn) hc (ha.imp (fun h => by rw [h]; rfl) fun h => h) (fun j c hj => ?_) (fun j c hj => ?_)
    all_goals
      rw [zns_map, List.getElem?_map] at hj
      obtain ⟨c0, hc0, rfl⟩ := Option.map_eq_some_iff.1 hj
    · exact hcell j c0 hc0
    · exact fz_zn c0 _ (hrec j c0 hc0)

theorem to_okt (hf : Fits E.S ρ S0) (rt : Bool) {k b : Nat} (hb : E.okz k b) : (E.to ρ S0 L).okz (if rt = true then L else k) b := by
  split
  · exact to_okL hb.1 fun ho => hb.2.1 (to_own hf ho)
  · exact to_okz hf hb

theorem lend_tr {rt : Bool} (h : Inv E w0) (hf : Fits E.S ρ S0) : ∀ (t t2 : T) (v : Value), lendT rt E.S ρ L t = some t2 → TR E t v → TR (E.to ρ S0 L) t2 v
  | .v x, t2, v, hl, ht => by simp only [lendT, Option.some.injEq] at hl; subst hl; cases ht; exact .v _
  | .sl false k n e cs, t2, v, hl, ht => by
    simp only [lendT, Option.some.injEq] at hl; subst hl
    cases ht with
    | sl hz => exact .sl (hz.evo fun b hb => ⟨to_okt hf rt hb, rfl⟩).tag
  | .sl true k n e cs, t2, v, hl, ht => by simp [lendT] at hl
  | .ref r p off n, t2, v, hl, ht => by
    simp only [lendT] at hl
    split at hl
    · rename_i i hi
      cases hl
      have hri : ρ[i]? = some r := idx_at hi
      cases ht with
      | ref hr hh =>
        refine .ref (by have := (List.getElem?_eq_some_iff.1 hri).1; rw [hf.len] at this; exact this) fun e cs hx => ?_
        rw [to_at' hf hri] at hx
        obtain ⟨x2, h5, h6⟩ := Option.map_eq_some_iff.1 hx
        simp only [Prod.mk.injEq] at h6
        obtain ⟨rfl, rfl⟩ := h6
        have : (E.to ρ S0 L).φ i p = E.φ r p := by simp [Env.to, List.getD_eq_getElem?_getD, hri]
        rw [this]
        exact hh x2.1 x2.2 h5
    · rename_i hi
      have hnr : r ∉ ρ := by
        intro hm
        exact absurd hi (by simp [List.idxOf?_eq_none_iff, hm])
      split at hl
      · rename_i e cs hn
        split at hl
        · rename_i hz
          cases hl
          cases ht with
          | ref hr hh =>
            obtain ⟨cap, arr', ty', mk', b1, b2, b3, rfl⟩ := hh e cs hn
            have hn' := Store.at_any hn
            obtain ⟨arr, ty, mk, a1, a2, a3, a4, a5⟩ := h.blk r p e cs hn'
            refine .sl (fz_zns (.sl (E.φ r p) off (fun j => arr.getD (off + j) undef) (by rw [List.length_take, List.length_drop]; omega) b2 (.inr ⟨rfl, to_hidden h hf hn' hnr⟩) (fun i c hi => ?_) (fun i c hi => ?_)))
            all_goals
              have hi' : cs[off + i]? = some c := by
                rw [List.getElem?_take] at hi
                split at hi
                · rw [List.getElem?_drop] at hi; exact hi
                · cases hi
              have hlt := (List.getElem?_eq_some_iff.1 hi').1
            · show E.w.cell? _ = _
              rw [cell_of_row _ _ _ _ _ _ a1, Array.getD_eq_getD_getElem?, Array.getElem?_eq_getElem (by omega)]; rfl
            · exact fz_cells h hf hnr c p (off + i) e cs _ hn' hi' (a5 _ c hi') (allTs_at cs hz.1 _ c hi')
        · cases hl
      · cases hl
  | .ptr r p off, t2, v, hl, ht => by
    simp only [lendT] at hl
    split at hl
    · rename_i i hi
      cases hl
      have hri : ρ[i]? = some r := idx_at hi
      cases ht with
      | ptr hr hh =>
        refine .ptr (by have := (List.getElem?_eq_some_iff.1 hri).1; rw [hf.len] at this; exact this) fun x hx => ?_
        rw [to_at' hf hri] at hx
        obtain ⟨x2, h5, h6⟩ := Option.map_eq_some_iff.1 hx
        have : (E.to ρ S0 L).φ i p = E.φ r p := by simp [Env.to, List.getD_eq_getElem?_getD, hri]
        rw [this]
        exact hh x2 h5
    · rename_i hi
      have hnr : r ∉ ρ := by
        intro hm
        exact absurd hi (by simp [List.idxOf?_eq_none_iff, hm])
      split at hl
      · rename_i e cs hn
        split at hl
        · rename_i hz
          cases hl
          cases ht with
          | ptr hr hh =>
            have hn' := Store.at_any hn
            obtain ⟨arr, ty, mk, a1, a2, a3, a4, a5⟩ := h.blk r p e cs hn'
            have hv := hh _ hn
            subst hv
            have := TR.pz (E := E.to ρ S0 L) (k := L) (cs := zns cs) (off := off) (b := E.φ r p) (o := 0) (fun j => arr.getD j undef) (to_hidden h hf hn' hnr) (fun i c hi => by
                rw [zns_map, List.getElem?_map] at hi
                obtain ⟨c0, hi0, rfl⟩ := Option.map_eq_some_iff.1 hi
                clear hi
                have hi := hi0
                have hlt := (List.getElem?_eq_some_iff.1 hi).1
                show E.w.cell? _ = _
                rw [cell_of_row _ _ _ _ _ _ a1, Array.getD_eq_getD_getElem?, Array.getElem?_eq_getElem (by omega)]
                simp [Array.getElem?_eq_getElem (show i < arr.size by omega)]) (fun i c hi => by
                rw [zns_map, List.getElem?_map] at hi
                obtain ⟨c0, hi0, rfl⟩ := Option.map_eq_some_iff.1 hi
                clear hi
                have hi := hi0
                exact fz_zn _ _ (fz_cells h hf hnr c0 p i e cs _ hn' hi (a5 _ c0 hi) (allTs_at cs hz _ c0 hi)))
            simpa using this
        · cases hl
      · cases hl
  | .pz k cs off, t2, v, hl, ht => by
    simp only [lendT, Option.some.injEq] at hl; subst hl
    cases ht with
    | pz f hok hcell hrec => exact .pz f (to_okt hf rt hok) hcell (fun j c hj => (hrec j c hj).evo fun b hb => ⟨to_okt hf rt hb, rfl⟩)
  | .agg cs, t2, v, hl, ht => by
    simp only [lendT] at hl
    obtain ⟨xs, hx, rfl⟩ := Option.map_eq_some_iff.1 hl
    obtain ⟨h1, h2⟩ := lendTs_at cs xs hx
    cases ht with
    | agg hs hh =>
      refine .agg (hs.trans h1.symm) fun i t hi => ?_
      obtain ⟨c, hc, hd⟩ := h2 i t hi
      exact lend_tr h hf c t _ hd (hh i c hc)
  | .tup cs, t2, v, hl, ht => by
    simp only [lendT] at hl
    obtain ⟨xs, hx, rfl⟩ := Option.map_eq_some_iff.1 hl
    obtain ⟨h1, h2⟩ := lendTs_at cs xs hx
    cases ht with
    | tup hs hh =>
      refine .tup (hs.trans h1.symm) fun i t hi => ?_
      obtain ⟨c, hc, hd⟩ := h2 i t hi
      exact lend_tr h hf c t _ hd (hh i c hc)
  | .clo f cs, t2, v, hl, ht => by
    simp only [lendT] at hl
    obtain ⟨xs, hx, rfl⟩ := Option.map_eq_some_iff.1 hl
    obtain ⟨h1, h2⟩ := lendTs_at cs xs hx
    cases ht with
    | clo hs hh =>
      refine .clo (hs.trans h1.symm) fun i t hi => ?_
      obtain ⟨c, hc, hd⟩ := h2 i t hi
      exact lend_tr h hf c t _ hd (hh i c hc)
  | .dead, t2, v, hl, ht => by simp only [lendT, Option.some.injEq] at hl; subst hl; exact .dead _
termination_by t => SizeOf.sizeOf t
decreasing_by
  all_goals
    have h1 := List.mem_of_getElem? hc
    have h2 := List.sizeOf_lt_of_mem h1
    simp only [T.agg.sizeOf_spec, T.tup.sizeOf_spec, T.clo.sizeOf_spec]
    omega

end
end Go.TL

/- What holds behind a call, under the caller's numbers. No conditions. -/
namespace Go.TL
set_option linter.unusedSimpArgs false
open Go.RowKit

theorem backS_get (ρ : List Nat) (S S1 : Store) (r : Nat) : (backS ρ S S1)[r]? = if r < S.length then (match ρ.idxOf? r with | some i => some (Root.ren (backId ρ S.length) ((S1[i]?).getD ⟨0, false, []⟩)) | none => S[r]?)
    else (S1[r - S.length + ρ.length]?).map (Root.ren (backId ρ S.length)) := by
  unfold backS
  rw [List.getElem?_append]
  simp only [List.length_map, List.length_zipIdx]
  by_cases hr : r < S.length
  · rw [if_pos hr, if_pos hr, List.getElem?_map, List.getElem?_zipIdx, List.getElem?_eq_getElem hr]
    simp only [Option.map_some, Nat.zero_add]
    cases ρ.idxOf? r <;> rfl
  · rw [if_neg hr, if_neg hr, List.getElem?_map, List.getElem?_drop, Nat.add_comm]

def Env.back (E E2 : Env) (ρ : List Nat) : Env :=
  { w := E2.w, S := backS ρ E.S E2.S, φ := fun r p => if r < E.S.length then (match ρ.idxOf? r with | some i => E2.φ i p | none => E.φ r p) else E2.φ (r - E.S.length + ρ.length) p, B := E.B, N := E.N, K := E.K }

theorem backId_lt {ρ : List Nat} {n i r : Nat} (h : ρ[i]? = some r) : backId ρ n i = r := by simp [backId, h]
theorem backId_ge {ρ : List Nat} {n i : Nat} (h : ρ.length ≤ i) : backId ρ n i = n + (i - ρ.length) := by simp [backId, List.getElem?_eq_none h]

section
variable {E E2 : Env} {w0 : World} {ρ : List Nat} {S0 : Store} {L : Nat}

theorem idx_of (hf : Fits E.S ρ S0) {i r : Nat} (h : ρ[i]? = some r) : ρ.idxOf? r = some i := by
  cases hx : ρ.idxOf? r with
  | none => exact absurd (List.mem_of_getElem? h) (by simpa [List.idxOf?_eq_none_iff] using hx)
  | some j =>
    have h2 := idx_at hx
    rw [(List.getElem?_inj (List.getElem?_eq_some_iff.1 h).1 hf.nodup).1 (h.trans h2.symm)]

theorem backId_inj (hf : Fits E.S ρ S0) {i j : Nat} (h : backId ρ E.S.length i = backId ρ E.S.length j) : i = j := by
  rcases Nat.lt_or_ge i ρ.length with hi | hi <;> rcases Nat.lt_or_ge j ρ.length with hj | hj
  · rw [backId_lt (List.getElem?_eq_getElem hi), backId_lt (List.getElem?_eq_getElem hj)] at h
    exact (List.getElem?_inj hi hf.nodup).1 (by rw [List.getElem?_eq_getElem hi, List.getElem?_eq_getElem hj, h])
  · rw [backId_lt (List.getElem?_eq_getElem hi), backId_ge hj] at h
    have := hf.lt _ (List.getElem_mem hi)
    omega
  · rw [backId_ge hi, backId_lt (List.getElem?_eq_getElem hj)] at h
    have := hf.lt _ (List.getElem_mem hj)
    omega
  · rw [backId_ge hi, backId_ge hj] at h; omega

theorem back_phi (hf : Fits E.S ρ S0) (i : Nat) (q : List Nat) : (E.back E2 ρ).φ (backId ρ E.S.length i) q = E2.φ i q := by
  rcases Nat.lt_or_ge i ρ.length with hi | hi
  · have h := List.getElem?_eq_getElem hi
    rw [backId_lt h]
    simp only [Env.back, hf.lt _ (List.getElem_mem hi), if_true, idx_of hf h]
  · rw [backId_ge hi]
    simp only [Env.back]
    rw [if_neg (by omega), show E.S.length + (i - ρ.length) - E.S.length + ρ.length = i by omega]

theorem ren_at (g : Nat → Nat) (any : Bool) (S S' : Store) (r i : Nat) (p : List Nat) (h : S'[r]? = (S[i]?).map (Root.ren g)) : S'.at any r p = (S.at any i p).map fun x => (x.1, rens g x.2) := by
  unfold Store.at
  rw [h]
  cases S[i]? with
  | none => rfl
  | some x =>
    simp only [Option.map_some, Root.ren]
    split
    · exact cellsAt_rens g any p x.e x.cs
    · rfl

theorem back_at_new (hf : Fits E.S ρ S0) (hl : ρ.length ≤ E2.S.length) (any : Bool) (i : Nat) (p : List Nat) : (E.back E2 ρ).S.at any (backId ρ E.S.length i) p = (E2.S.at any i p).map fun x => (x.1, rens (backId ρ E.S.length) x.2) := by
  refine ren_at _ any _ _ _ i p ?_
  show (backS ρ E.S E2.S)[_]? = _
  rw [backS_get]
  rcases Nat.lt_or_ge i ρ.length with hi | hi
  · have h := List.getElem?_eq_getElem hi
    rw [backId_lt h, if_pos (hf.lt _ (List.getElem_mem hi)), idx_of hf h]
    simp only [List.getElem?_eq_getElem (l := E2.S) (i := i) (by omega), Option.getD_some, Option.map_some]
  · rw [backId_ge hi, if_neg (by omega), show E.S.length + (i - ρ.length) - E.S.length + ρ.length = i by omega]

theorem back_at_old {any : Bool} {r : Nat} (h1 : r ∉ ρ) (h2 : r < E.S.length) (p : List Nat) : (E.back E2 ρ).S.at any r p = E.S.at any r p ∧ (E.back E2 ρ).φ r p = E.φ r p := by
  have h3 : ρ.idxOf? r = none := by simp [List.idxOf?_eq_none_iff, h1]
  constructor
  · unfold Store.at
    show (match (backS ρ E.S E2.S)[r]? with | some x => _ | none => _) = _
    rw [backS_get, if_pos h2, h3]
    rfl
  · simp only [Env.back, if_pos h2, h3]

theorem back_at (hf : Fits E.S ρ S0) (hl : ρ.length ≤ E2.S.length) {any : Bool} {r : Nat} {p : List Nat} {x : Nat × List T} (hx : (E.back E2 ρ).S.at any r p = some x) :
    (∃ i x1, r = backId ρ E.S.length i ∧ E2.S.at any i p = some x1 ∧ x = (x1.1, rens (backId ρ E.S.length) x1.2)) ∨ (r ∉ ρ ∧ r < E.S.length ∧ E.S.at any r p = some x) := by
  by_cases h2 : r < E.S.length
  · by_cases h1 : r ∈ ρ
    · obtain ⟨i, hi, he⟩ := List.mem_iff_getElem.1 h1
      have he' : r = backId ρ E.S.length i := by rw [backId_lt (List.getElem?_eq_getElem hi), he]
      rw [he', back_at_new hf hl] at hx
      obtain ⟨x1, hx1, rfl⟩ := Option.map_eq_some_iff.1 hx
      exact .inl ⟨i, x1, he', hx1, rfl⟩
    · rw [(back_at_old h1 h2 p).1] at hx
      exact .inr ⟨h1, h2, hx⟩
  · have he' : r = backId ρ E.S.length (r - E.S.length + ρ.length) := by rw [backId_ge (by omega)]; omega
    rw [he', back_at_new hf hl] at hx
    obtain ⟨x1, hx1, rfl⟩ := Option.map_eq_some_iff.1 hx
    exact .inl ⟨_, x1, he', hx1, rfl⟩

theorem back_okz (_h : Inv E w0) (hf : Fits E.S ρ S0) (hl : ρ.length ≤ E2.S.length) (ev : Evo (E.to ρ S0 L) E2) (_h2 : Inv E2 E.w) {k b : Nat} (hb : E.okz k b) : (E.back E2 ρ).okz k b ∧ E2.w.heap[b]? = E.w.heap[b]? := by
  obtain ⟨h3, h4⟩ := ev.fz k b (to_okz hf hb)
  refine ⟨⟨h3.1, ?_, hb.2.2⟩, h4⟩
  rintro ⟨r, p, x, hx, hbb⟩
  rcases back_at hf hl hx with ⟨i, x1, rfl, hx1, _⟩ | ⟨h5, h6, h7⟩
  · rw [back_phi hf] at hbb
    exact h3.2.1 ⟨i, p, x1, hx1, hbb⟩
  · rw [(back_at_old (any := true) h5 h6 p).2] at hbb
    exact hb.2.1 ⟨r, p, x, h7, hbb⟩

/-- What the callee's frozen blocks are to the caller. -/
theorem back_okz2 (h : Inv E w0) (hf : Fits E.S ρ S0) (hl : ρ.length ≤ E2.S.length) (ev : Evo (E.to ρ S0 L) E2) (_h2 : Inv E2 E.w) {k b : Nat} (hk : k ≠ L) (hb : E2.okz k b) : (E.back E2 ρ).okz k b := by
  have hN : E2.N = E.w.heap.size := ev.N
  have hK : ∀ b, E2.K k b → E.okz k b ∨ (k = 0 ∧ ∃ r p x, r ∈ ρ ∧ E.S.at true r p = some x ∧ E.φ r p = b) := fun b hb => by
    rw [ev.K] at hb
    rcases hb with hb | hb
    · exact absurd hb hk
    · exact hb
  refine ⟨hb.1, ?_, fun hlt => ?_⟩
  · rintro ⟨r, p, x, hx, hbb⟩
    rcases back_at hf hl hx with ⟨i, x1, rfl, hx1, _⟩ | ⟨h5, h6, h7⟩
    · rw [back_phi hf] at hbb
      exact hb.2.1 ⟨i, p, x1, hx1, hbb⟩
    · rw [(back_at_old (any := true) h5 h6 p).2] at hbb
      have hown : E.own b := ⟨r, p, x, h7, hbb⟩
      rcases hK b (hb.2.2 (by rw [hN]; exact (Env.own_lt h hown).2)) with this | ⟨_, r2, p2, x2, hm, h8, h9⟩
      · exact this.2.1 hown
      · have := (h.inj _ _ _ _ _ _ h7 h8 (hbb.trans h9.symm)).1
        exact h5 (this ▸ hm)
  · have hlt' : b < E.w.heap.size := Nat.lt_of_lt_of_le (show b < E.N from hlt) (Nat.le_trans h.hN h.below.size)
    rcases hK b (hb.2.2 (by rw [hN]; exact hlt')) with this | ⟨rfl, r2, p2, x2, hm, h8, h9⟩
    · exact this.2.2 hlt
    · have := h.frz _ _ _ h8 (by rw [h9]; exact hlt)
      rw [h9] at this
      exact this

theorem back_hidden (h : Inv E w0) (hf : Fits E.S ρ S0) (_hl : ρ.length ≤ E2.S.length) (ev : Evo (E.to ρ S0 L) E2) (_h2 : Inv E2 E.w) {r : Nat} {p : List Nat} {x : Nat × List T} (hx : E.S.at true r p = some x) (hr : r ∉ ρ) : E2.w.heap[E.φ r p]? = E.w.heap[E.φ r p]? :=
  (ev.fz L _ (to_hidden h hf hx hr)).2

theorem back_evo (h : Inv E w0) (hf : Fits E.S ρ S0) (hl : ρ.length ≤ E2.S.length) (ev : Evo (E.to ρ S0 L) E2) (h2 : Inv E2 E.w) : Evo E (E.back E2 ρ) := by
  refine ⟨rfl, rfl, rfl, by show _ ≤ (backS ρ E.S E2.S).length; rw [backS_length]; omega, fun k b hb => back_okz h hf hl ev h2 hb, fun r p e cs' hr hx => ?_⟩
  by_cases hm : r ∈ ρ
  · obtain ⟨i, hi, he⟩ := List.mem_iff_getElem.1 hm
    have hri : ρ[i]? = some r := by rw [List.getElem?_eq_getElem hi, he]
    have he' : r = backId ρ E.S.length i := (backId_lt hri).symm
    have hphi : (E.back E2 ρ).φ r p = E2.φ i p := by rw [he', back_phi hf]
    rw [he', back_at_new hf hl] at hx
    obtain ⟨x1, hx1, hx2⟩ := Option.map_eq_some_iff.1 hx
    simp only [Prod.mk.injEq] at hx2
    obtain ⟨rfl, rfl⟩ := hx2
    obtain ⟨⟨cs, h3⟩, h4, h5⟩ := ev.node i p x1.1 x1.2 (by show i < S0.length; rw [← hf.len]; exact hi) hx1
    have hphi2 : (E.to ρ S0 L).φ i p = E.φ r p := by simp [Env.to, List.getD_eq_getElem?_getD, hri]
    rw [to_at' hf hri] at h3
    obtain ⟨x3, h3, h6⟩ := Option.map_eq_some_iff.1 h3
    simp only [Prod.mk.injEq] at h6
    refine ⟨⟨x3.2, by rw [h3, ← h6.1]⟩, hphi.trans (h4.trans hphi2), fun arr ty mk ha => ?_⟩
    have := h5 arr ty mk (by rw [hphi2]; exact ha)
    rw [hphi2] at this
    exact this
  · obtain ⟨h3, h4⟩ := back_at_old (E := E) (E2 := E2) (any := false) hm hr p
    rw [h3] at hx
    exact ⟨⟨cs', hx⟩, h4, fun arr ty mk ha => ⟨arr, (back_hidden h hf hl ev h2 (Store.at_any hx) hm).trans ha, rfl⟩⟩

theorem back_tr (h : Inv E w0) (hf : Fits E.S ρ S0) (hl : ρ.length ≤ E2.S.length) (ev : Evo (E.to ρ S0 L) E2) (h2 : Inv E2 E.w) : ∀ (t : T) (v : Value), allT (leafFree L) t = true → TR E2 t v → TR (E.back E2 ρ) (ren (backId ρ E.S.length) t) v
  | .v x, v, _, ht => by cases ht; exact .v _
  | .sl false k n e cs, v, hL, ht => by
    have hk : k ≠ L := by simpa [allT, leafFree] using hL
    cases ht with
    | sl hz => exact .sl (hz.evo fun b hb => ⟨back_okz2 h hf hl ev h2 hk hb, rfl⟩)
  | .sl true k n e cs, v, _, ht => by cases ht
  | .ref r p off n, v, _, ht => by
    cases ht with
    | ref hr hh =>
      refine .ref ?_ fun e cs hx => ?_
      · show backId ρ E.S.length r < (backS ρ E.S E2.S).length
        rw [backS_length]
        rcases Nat.lt_or_ge r ρ.length with hi | hi
        · rw [backId_lt (List.getElem?_eq_getElem hi)]
          have := hf.lt _ (List.getElem_mem hi)
          omega
        · rw [backId_ge hi]; omega
      · rw [back_at_new hf hl] at hx
        obtain ⟨x1, hx1, hx2⟩ := Option.map_eq_some_iff.1 hx
        simp only [Prod.mk.injEq] at hx2
        obtain ⟨rfl, rfl⟩ := hx2
        rw [back_phi hf]
        exact hh x1.1 x1.2 hx1
  | .ptr r p off, v, _, ht => by
    cases ht with
    | ptr hr hh =>
      refine .ptr ?_ fun x hx => ?_
      · show backId ρ E.S.length r < (backS ρ E.S E2.S).length
        rw [backS_length]
        rcases Nat.lt_or_ge r ρ.length with hi | hi
        · rw [backId_lt (List.getElem?_eq_getElem hi)]
          have := hf.lt _ (List.getElem_mem hi)
          omega
        · rw [backId_ge hi]; omega
      · rw [back_at_new hf hl] at hx
        obtain ⟨x1, hx1, hx2⟩ := Option.map_eq_some_iff.1 hx
        rw [back_phi hf]
        exact hh x1 hx1
  | .pz k cs off, v, hL, ht => by
    have hk : k ≠ L := by simpa [allT, leafFree] using hL
    cases ht with
    | pz f hok hcell hrec => exact .pz f (back_okz2 h hf hl ev h2 hk hok) hcell (fun j c hj => (hrec j c hj).evo fun b hb => ⟨back_okz2 h hf hl ev h2 hk hb, rfl⟩)
  | .agg cs, v, hL, ht => by
    cases ht with
    | agg hs hh =>
      rw [ren, rens_map]
      refine .agg (by rw [List.length_map]; exact hs) fun i t hi => ?_
      rw [List.getElem?_map] at hi
      obtain ⟨c, hc, rfl⟩ := Option.map_eq_some_iff.1 hi
      exact back_tr h hf hl ev h2 c _ (allTs_at cs (by simpa [allT] using hL) i c hc) (hh i c hc)
  | .tup cs, v, hL, ht => by
    cases ht with
    | tup hs hh =>
      rw [ren, rens_map]
      refine .tup (by rw [List.length_map]; exact hs) fun i t hi => ?_
      rw [List.getElem?_map] at hi
      obtain ⟨c, hc, rfl⟩ := Option.map_eq_some_iff.1 hi
      exact back_tr h hf hl ev h2 c _ (allTs_at cs (by simpa [allT] using hL) i c hc) (hh i c hc)
  | .clo f cs, v, hL, ht => by
    cases ht with
    | clo hs hh =>
      rw [ren, rens_map]
      refine .clo (by rw [List.length_map]; exact hs) fun i t hi => ?_
      rw [List.getElem?_map] at hi
      obtain ⟨c, hc, rfl⟩ := Option.map_eq_some_iff.1 hi
      exact back_tr h hf hl ev h2 c _ (allTs_at cs (by simpa [allT] using hL) i c hc) (hh i c hc)
  | .dead, v, _, ht => .dead _
termination_by t => SizeOf.sizeOf t
decreasing_by
  all_goals
    have h1 := List.mem_of_getElem? hc
    have h2 := List.sizeOf_lt_of_mem h1
    simp only [T.agg.sizeOf_spec, T.tup.sizeOf_spec, T.clo.sizeOf_spec]
    omega

/-- No cell of the roots shows the tag that was lent. -/
def FreeS (L : Nat) (S : Store) : Prop := ∀ x ∈ S, x.live = true → allTs (leafFree L) x.cs = true

theorem FreeS.at {L : Nat} {S : Store} (hs : FreeS L S) {any : Bool} {r : Nat} {p : List Nat} {x : Nat × List T} (hx : S.at any r p = some x) : allTs (leafFree L) x.2 = true := by
  unfold Store.at at hx
  cases hr : S[r]? with
  | none => rw [hr] at hx; cases hx
  | some y =>
    rw [hr] at hx
    simp only at hx
    split at hx
    · rename_i hlv
      exact allTs_cellsAt p y.e y.cs x (hs y (List.mem_of_getElem? hr) hlv) hx
    · cases hx

theorem back_inv (hL : L ≠ 0) (h : Inv E w0) (hf : Fits E.S ρ S0) (hl : ρ.length ≤ E2.S.length) (ev : Evo (E.to ρ S0 L) E2) (h2 : Inv E2 E.w) (hs : FreeS L E2.S) : Inv (E.back E2 ρ) w0 := by
  have ev' := back_evo h hf hl ev h2
  have hB : E2.B = E.B := ev.B
  refine ⟨h.below.trans (by have := h2.below; rw [hB] at this; exact this), h.hB, h.hN, fun r p e cs hx => ?_, fun r p x r' p' x' hx hx' hb => ?_, fun r p x hx hlt => ?_⟩
  · rcases back_at hf hl hx with ⟨i, x1, rfl, hx1, hx2⟩ | ⟨h5, h6, h7⟩
    · simp only [Prod.mk.injEq] at hx2
      obtain ⟨rfl, rfl⟩ := hx2
      obtain ⟨arr, ty, mk, a1, a2, a3, a4, a5⟩ := h2.blk i p x1.1 x1.2 hx1
      refine ⟨arr, ty, mk, by rw [back_phi hf]; exact a1, by rw [rens_length]; exact a2, a3, by rw [back_phi hf, show (E.back E2 ρ).B = E2.B from hB.symm]; exact a4, fun j c hc => ?_⟩
      rw [rens_map, List.getElem?_map] at hc
      obtain ⟨c1, hc1, rfl⟩ := Option.map_eq_some_iff.1 hc
      have hfree := allTs_at x1.2 (hs.at hx1) j c1 hc1
      cases a5 j c1 hc1 with
      | v _ hv => exact .v _ hv
      | fz hz =>
        rename_i k n e cs
        have hk : k ≠ L := by simpa [allT, leafFree] using hfree
        exact .fz (hz.evo fun b hb => ⟨back_okz2 h hf hl ev h2 hk hb, rfl⟩)
      | own hn hv =>
        refine .own (by rw [rens_length]; exact hn) ?_
        rw [back_phi hf]; exact hv
      | ref hv ht => exact .ref hv (back_tr h hf hl ev h2 _ _ rfl ht)
      | dead _ hv => exact .dead _ hv
    · obtain ⟨arr, ty, mk, a1, a2, a3, a4, a5⟩ := h.blk r p e cs h7
      have hphi := fun q => (back_at_old (E := E) (E2 := E2) (any := true) h5 h6 q).2
      refine ⟨arr, ty, mk, by rw [hphi]; exact (back_hidden h hf hl ev h2 h7 h5).trans a1, a2, a3, by rw [hphi]; exact a4, fun j c hc => ?_⟩
      cases a5 j c hc with
      | v _ hv => exact .v _ hv
      | fz hz => exact .fz (hz.evo fun b hb => back_okz h hf hl ev h2 hb)
      | own hn hv =>
        refine .own hn ?_
        rw [hphi]
        have hat : ∃ y, E.S.at true r (p ++ [j]) = some y := by
          rw [Store.at_append, h7]
          exact ⟨_, by simp [cellsAt, hc]; rfl⟩
        obtain ⟨y, hy⟩ := hat
        exact hv.evo fun arr ty mk ha => ⟨arr, (back_hidden h hf hl ev h2 hy h5).trans ha, rfl⟩
      | ref hv ht => exact .ref hv (ht.evo ev')
      | dead _ hv => exact .dead _ hv
  · have hid : ∀ (i : Nat) (q : List Nat) (y : Nat × List T) (r : Nat) (p : List Nat) (x : Nat × List T), E2.S.at true i q = some y → r ∉ ρ → E.S.at true r p = some x → E2.φ i q ≠ E.φ r p := by
      intro i q y r p x hy hr hx he
      have := (ev.fz L _ (to_hidden h hf hx hr)).1
      exact this.2.1 ⟨i, q, y, hy, he⟩
    rcases back_at hf hl hx with ⟨i, x1, rfl, hx1, _⟩ | ⟨h5, h6, h7⟩ <;> rcases back_at hf hl hx' with ⟨i', x1', rfl, hx1', _⟩ | ⟨h5', h6', h7'⟩
    · rw [back_phi hf, back_phi hf] at hb
      obtain ⟨e1, e2⟩ := h2.inj _ _ _ _ _ _ hx1 hx1' hb
      exact ⟨by rw [e1], e2⟩
    · rw [back_phi hf, (back_at_old (any := true) h5' h6' p').2] at hb
      exact absurd hb (hid _ _ _ _ _ _ hx1 h5' h7')
    · rw [back_phi hf, (back_at_old (any := true) h5 h6 p).2] at hb
      exact absurd hb.symm (hid _ _ _ _ _ _ hx1' h5 h7)
    · rw [(back_at_old (any := true) h5 h6 p).2, (back_at_old (any := true) h5' h6' p').2] at hb
      exact h.inj _ _ _ _ _ _ h7 h7' hb
  · rcases back_at hf hl hx with ⟨i, x1, rfl, hx1, _⟩ | ⟨h5, h6, h7⟩
    · rw [back_phi hf] at hlt ⊢
      have hlt1 : E2.φ i p < E.N := hlt
      have hlt2 : E2.φ i p < E2.N := by rw [ev.N]; exact Nat.lt_of_lt_of_le hlt1 (Nat.le_trans h.hN h.below.size)
      have hk := h2.frz _ _ _ hx1 hlt2
      rw [ev.K] at hk
      rcases hk with hk | hk | ⟨_, r2, p2, x2, hm, h8, h9⟩
      · exact absurd hk hL.symm
      · exact hk.2.2 hlt1
      · have := h.frz _ _ _ h8 (by rw [h9]; exact hlt1)
        rw [h9] at this
        exact this
    · rw [(back_at_old (any := true) h5 h6 p).2] at hlt ⊢
      exact h.frz _ _ _ h7 hlt

end

/-- A contract over a few roots is one over more. -/
theorem CallsT.frame {P : Program} {S0 S1 : Store} {g : FuncId} {args2 : List T} {res2 : T} (hc : CallsT P S0 g args2 res2 S1) {S : Store} {ρ : List Nat} {args : List T} {rt : Bool} (L : Nat) (hL : L ≠ 0) (hf : Fits S ρ S0)
    {args1 : List T} (hk : Wks args args1) (ha : lendTs rt S ρ L args1 = some args2) (hr : allT (leafFree L) res2 = true) (hs : FreeS L S1) (hl : ρ.length ≤ S1.length) : CallsT P S g args (ren (backId ρ S.length) res2) (backS ρ S S1) := by
  refine ⟨hc.fn, fun E w0 vals hS hI hsz ht => ?_⟩
  subst hS
  obtain ⟨hl2, hat⟩ := lendTs_at args1 args2 ha
  refine (hc.run (E.to ρ S0 L) E.w vals rfl (to_inv hI hf) ((hsz.trans hk.at.1).trans hl2.symm) fun i t hi => ?_).mono fun e w' hh => ?_
  · obtain ⟨c, hc1, hd⟩ := hat i t hi
    have hlt := (List.getElem?_eq_some_iff.1 hc1).1
    obtain ⟨c0, hc0⟩ : ∃ c0, args[i]? = some c0 := ⟨_, List.getElem?_eq_getElem (hk.at.1 ▸ hlt)⟩
    exact lend_tr hI hf c t _ hd ((ht i c0 hc0).wk (hk.at.2 i c0 c hc0 hc1))
  · obtain ⟨v, E2, rfl, rfl, rfl, h2, ev, htr⟩ := hh
    exact ⟨v, E.back E2 ρ, rfl, rfl, rfl, back_inv hL hI hf hl ev h2 hs, back_evo hI hf hl ev h2, back_tr hI hf hl ev h2 _ _ hr htr⟩

end Go.TL

/- A call that writes into a row that lies in a cell of another. No conditions. -/
namespace Go.TL
set_option linter.unusedSimpArgs false
open Go.RowKit

def inF (r : Nat) (p : List Nat) (j N : Nat) : NMap := fun r0 p0 => if r0 = N then some (r, (p ++ [j]) ++ p0) else if r0 = r then (match stripP (p ++ [j]) p0 with | some _ => none | none => some (r, p0)) else some (r0, p0)
def inM (r : Nat) (p : List Nat) (j N : Nat) : Nat → List Nat → Nat × List Nat := fun r2 p2 => if r2 = r then (match stripP (p ++ [j]) p2 with | some s => (N, s) | none => (r, p2)) else (r2, p2)

section
variable {S : Store} {r : Nat} {p : List Nat} {j n e e0 : Nat} {cs0 cs2 : List T}

theorem in_upd (R X : T) : (S.upd r p (·.set j R)).upd r p (·.set j X) = S.upd r p (·.set j X) := by
  rw [Store.upd_upd]
  congr 1
  funext cs
  simp

theorem in_split (N : Nat) (R : T) (hR : ∀ k n e c, R ≠ .sl true k n e c) (h1 : S.at false r p = some (e0, cs0)) {any : Bool} {r2 : Nat} {p2 : List Nat} {e' : Nat} {cs'' : List T}
    (h : (reS (inF r p j N) (S.upd r p (·.set j (.sl true 0 n e cs2)))).at any r2 p2 = some (e', cs'')) :
    (r2 = r ∧ ∃ s, p2 = (p ++ [j]) ++ s ∧ ∃ c2, cellsAt any e cs2 s = some (e', c2) ∧ cs'' = reTs (inF r p j N) c2) ∨
    ((r2 = r → stripP (p ++ [j]) p2 = none) ∧ ∃ cs', (S.upd r p (·.set j R)).at any r2 p2 = some (e', cs') ∧ cs''.length = cs'.length ∧ ∀ i c'', cs''[i]? = some c'' →
      (r2 = r ∧ p2 = p ∧ i = j ∧ c'' = .sl true 0 n e (reTs (inF r p j N) cs2) ∧ cs' = cs0.set j R) ∨
      ((r2 = r → stripP (p ++ [j]) (p2 ++ [i]) = none) ∧ ∃ c c', cs'[i]? = some c ∧ c'' = reT (inF r p j N) c' ∧ (c' = c ∨ ∃ k n e c1 c2, c = .sl true k n e c1 ∧ c' = .sl true k n e c2 ∧ c2.length = c1.length))) := by
  rw [reS_at] at h
  obtain ⟨⟨e1, cs1⟩, hx, hy⟩ := Option.map_eq_some_iff.1 h
  simp only [Prod.mk.injEq] at hy
  obtain ⟨rfl, rfl⟩ := hy
  rw [← in_upd R] at hx
  have hb : (S.upd r p (·.set j R)).at false r p = some (e0, cs0.set j R) := Store.at_upd_self h1
  generalize hSb : S.upd r p (·.set j R) = Sb at hx hb
  by_cases er : r2 = r
  · subst er
    obtain ⟨g1, g2, g3⟩ := at_root hb
    have hx' : cellsAt any (rootAt Sb r2).e (updAt (·.set j (.sl true 0 n e cs2)) (rootAt Sb r2).cs p) p2 = some (e1, cs1) := by
      unfold Store.at Store.upd at hx
      simp only [g1] at hx
      rw [List.getElem?_set_self (List.getElem?_eq_some_iff.1 g1).1] at hx
      simp only [g2, if_true] at hx
      exact hx
    rcases nest_nodes (cellsAt_any g3) (fun k n e c hc => by
        rw [List.getElem?_set] at hc
        simp only [if_true] at hc
        split at hc
        · exact hR k n e c (by simpa using hc)
        · cases hc) hx' with ⟨s, k, n', eq, csq, k1, k2, k3⟩ | ⟨k1, cs', k2, k3, k4⟩
    · cases k2
      exact .inl ⟨rfl, s, k1, cs1, k3, rfl⟩
    · refine .inr ⟨fun _ => k1, cs', root_at g2 k2, by rw [reTs_length]; exact k3, fun i c'' hc => ?_⟩
      rw [reTs_map, List.getElem?_map] at hc
      obtain ⟨c', hc', rfl⟩ := Option.map_eq_some_iff.1 hc
      rcases k4 i c' hc' with ⟨l1, l2, rfl, l4⟩ | ⟨l1, c, l2, l3⟩
      · exact .inl ⟨rfl, l1, l2, by rw [reT], l4⟩
      · exact .inr ⟨fun _ => l1, c, c', l2, rfl, l3⟩
  · have hx' : Sb.at any r2 p2 = some (e1, cs1) := by
      unfold Store.at Store.upd at hx
      unfold Store.at
      cases hr : Sb[r]? with
      | none => simp only [hr] at hx; exact hx
      | some y =>
        simp only [hr] at hx
        rw [List.getElem?_set_ne (Ne.symm er)] at hx
        exact hx
    refine .inr ⟨fun e => absurd e er, cs1, hx', reTs_length _ _, fun i c'' hc => ?_⟩
    rw [reTs_map, List.getElem?_map] at hc
    obtain ⟨c', hc', rfl⟩ := Option.map_eq_some_iff.1 hc
    exact .inr ⟨fun e => absurd e er, c', c', hc', rfl, .inl rfl⟩

end

theorem CallsT.node {P : Program} {g : FuncId} {args args' : List T} {res' : T} {S : Store} {r : Nat} {p : List Nat} {j n e e0 : Nat} {cs0 cs1 cs2 : List T} (h1 : S.at false r p = some (e0, cs0)) (h2 : cs0[j]? = some (.sl true 0 n e cs1))
    (hc : CallsT P (S.upd r p (·.set j (.ref S.length [] 0 n)) ++ [(⟨e, true, cs1⟩ : Root)]) g args' res' (S.upd r p (·.set j (.ref S.length [] 0 n)) ++ [(⟨e, true, cs2⟩ : Root)]))
    (hl : cs2.length = n * e) (ha : args.map (reT (outF r p j S.length)) = args') : CallsT P S g args (reT (inF r p j S.length) res') (reS (inF r p j S.length) (S.upd r p (·.set j (.sl true 0 n e cs2)))) := by
  subst ha
  refine ⟨hc.fn, fun E w0 vals hS hI hsz ht => ?_⟩
  subst hS
  have hr := Store.at_lt h1
  have hre := out_re h1 h2
  have hI1 := re_inv hI hre
  refine (hc.run (E.re _ (outM r p j E.S.length)) w0 vals rfl hI1 (by rw [List.length_map]; exact hsz) fun i t hi => ?_).mono fun ex w' hh => ?_
  · rw [List.getElem?_map] at hi
    obtain ⟨t0, ht0, rfl⟩ := Option.map_eq_some_iff.1 hi
    exact re_tr hre (out_ok h1 h2) t0 _ (ht i t0 ht0)
  · obtain ⟨v, E2, rfl, rfl, hS2, hI2, ev, htr⟩ := hh
    generalize hN : E.S.length = N at *
    have hrN : r ≠ N := by omega
    have hNe : ∀ s, (E.re (E.S.upd r p (·.set j (.ref N [] 0 n)) ++ [(⟨e, true, cs1⟩ : Root)]) (outM r p j N)).φ N s = E.φ r ((p ++ [j]) ++ s) := fun s => by simp [Env.re, outM]
    have hold : ∀ any r2 p2, r2 ≠ N → E2.S.at any r2 p2 = (E.S.upd r p (·.set j (.ref N [] 0 n))).at any r2 p2 := fun any r2 p2 hne => by
      rw [hS2, Store.at_push, Store.upd_length, hN, if_neg hne]
    have hnew : ∀ any s, E2.S.at any N s = cellsAt any e cs2 s := fun any s => by
      rw [hS2, Store.at_push, Store.upd_length, hN, if_pos rfl]; rfl
    have hlen2 : E2.S.length = N + 1 := by rw [hS2, List.length_append, Store.upd_length, hN]; rfl
    have hnot : ∀ k n' e' c, (T.ref N [] 0 n) ≠ .sl true k n' e' c := fun k n' e' c hh => by cases hh
    have spl := fun {any : Bool} {r2 : Nat} {p2 : List Nat} {e' : Nat} {cs'' : List T} => @in_split E.S r p j n e e0 cs0 cs2 N (.ref N [] 0 n) hnot h1 any r2 p2 e' cs''
    have hlt3 : ∀ {any r2 p2 x}, (reS (inF r p j N) (E.S.upd r p (·.set j (.sl true 0 n e cs2)))).at any r2 p2 = some x → r2 < N := fun hx => by
      have := Store.at_lt hx
      rw [reS_length, Store.upd_length, hN] at this
      exact this
    have hok : NmOk E2.S (reS (inF r p j N) (E.S.upd r p (·.set j (.sl true 0 n e cs2)))) (inM r p j N) (inF r p j N) := by
      intro r0 p0 x hlt hx
      have hlen : (reS (inF r p j N) (E.S.upd r p (·.set j (.sl true 0 n e cs2)))).length = N := by rw [reS_length, Store.upd_length, hN]
      unfold inF at hx
      split at hx
      · rename_i er
        subst er
        cases hx
        refine ⟨by rw [hlen]; omega, fun e' cs' hy => ?_⟩
        rcases spl hy with ⟨_, s, k1, c2, k2, _⟩ | ⟨k1, _⟩
        · have := List.append_cancel_left k1
          subst this
          exact ⟨⟨c2, by rw [hnew]; exact k2⟩, by simp only [inM, if_true]; rw [stripP_app]⟩
        · have := k1 rfl
          simp only [stripP_app] at this
          cases this
      · rename_i er
        split at hx
        · rename_i e2
          subst e2
          split at hx
          · cases hx
          · rename_i hs
            cases hx
            refine ⟨by rw [hlen]; omega, fun e' cs' hy => ?_⟩
            rcases spl hy with ⟨_, s, k1, _⟩ | ⟨k1, cs1', k2, _⟩
            · simp only at k1; rw [k1, stripP_app] at hs; cases hs
            · exact ⟨⟨cs1', by rw [hold _ _ _ er]; exact k2⟩, by simp only [inM, if_true]; rw [hs]⟩
        · rename_i e2
          cases hx
          refine ⟨by rw [hlen]; rw [hlen2] at hlt; omega, fun e' cs' hy => ?_⟩
          rcases spl hy with ⟨k0, _⟩ | ⟨_, cs1', k2, _⟩
          · exact absurd k0 e2
          · exact ⟨⟨cs1', by rw [hold _ _ _ er]; exact k2⟩, by simp only [inM, if_neg e2]⟩
    have hRe : Re E2.S (reS (inF r p j N) (E.S.upd r p (·.set j (.sl true 0 n e cs2)))) (inM r p j N) := by
      refine ⟨fun r2 p2 e' cs'' hx => ?_, fun r2 p2 x r2' p2' x' hx hx' hm => ?_⟩
      · have hl3 := hlt3 hx
        rcases spl hx with ⟨rfl, s, rfl, c2, k1, rfl⟩ | ⟨k0, cs', k1, k2, k3⟩
        · have em : inM r2 p j N r2 ((p ++ [j]) ++ s) = (N, s) := by simp only [inM, if_true]; rw [stripP_app]
          refine ⟨c2, by rw [em]; exact (hnew _ _).trans k1, reTs_length _ _, fun i c' hc => ?_⟩
          rw [reTs_map, List.getElem?_map] at hc
          obtain ⟨c, hc', rfl⟩ := Option.map_eq_some_iff.1 hc
          refine ⟨c, hc', reC_gen hok ?_ c⟩
          rw [em, List.append_assoc]
          simp only [inM, if_true]
          rw [stripP_app]
        · have em : ∀ p3, (r2 = r → stripP (p ++ [j]) p3 = none) → inM r p j N r2 p3 = (r2, p3) := fun p3 h3 => by
            by_cases e2 : r2 = r
            · subst e2; simp only [inM, if_true]; rw [h3 rfl]
            · simp only [inM, if_neg e2]
          refine ⟨cs', by rw [em _ k0]; exact (hold _ _ _ (by omega)).trans k1, k2, fun i c' hc => ?_⟩
          rcases k3 i c' hc with ⟨rfl, rfl, rfl, rfl, rfl⟩ | ⟨l1, c, c1, l2, rfl, l3⟩
          · refine ⟨_, ?_, .nest (q := N) (p' := []) (n := n) (cs := cs2) (e := e) (by rw [hnew]; rfl) ?_ (by rw [reTs_length]; exact hl)⟩
            · rw [List.getElem?_set_self (List.getElem?_eq_some_iff.1 h2).1]
            · simp only [inM, if_true]
              have := stripP_app (p2 ++ [i]) []
              rw [List.append_nil] at this
              rw [this]
          · refine ⟨c, l2, ?_⟩
            rcases l3 with rfl | ⟨k, n, e, c1, c2, rfl, rfl, l4⟩
            · exact reC_gen hok (by rw [em _ k0, em _ l1]) _
            · rw [reT]
              exact .own (by rw [em _ k0, em _ l1]) (by rw [reTs_length]; exact l4)
      · have key : ∀ {r2 p2 x}, (reS (inF r p j N) (E.S.upd r p (·.set j (.sl true 0 n e cs2)))).at true r2 p2 = some x → r2 < N ∧ ((r2 = r ∧ ∃ s, p2 = (p ++ [j]) ++ s ∧ inM r p j N r2 p2 = (N, s)) ∨ inM r p j N r2 p2 = (r2, p2)) := by
          intro r2 p2 x hx
          refine ⟨hlt3 hx, ?_⟩
          rcases spl (e' := x.1) (cs'' := x.2) hx with ⟨rfl, s, rfl, c2, k1, _⟩ | ⟨k0, cs', k1, k2, k3⟩
          · exact .inl ⟨rfl, s, rfl, by simp only [inM, if_true]; rw [stripP_app]⟩
          · refine .inr ?_
            by_cases e2 : r2 = r
            · subst e2; simp only [inM, if_true]; rw [k0 rfl]
            · simp only [inM, if_neg e2]
        obtain ⟨u1, u2⟩ := key hx
        obtain ⟨u3, u4⟩ := key hx'
        rcases u2 with ⟨a1, s, a2, a3⟩ | a3 <;> rcases u4 with ⟨b1, s', b2, b3⟩ | b3 <;> rw [a3, b3] at hm <;> simp only [Prod.mk.injEq] at hm
        · exact ⟨a1.trans b1.symm, by rw [a2, b2, hm.2]⟩
        · omega
        · omega
        · exact hm
    refine ⟨v, E2.re _ (inM r p j N), rfl, rfl, rfl, re_inv hI2 hRe, ?_, re_tr hRe hok _ _ htr⟩
    have evE : Evo E (E.re (E.S.upd r p (·.set j (.ref N [] 0 n)) ++ [(⟨e, true, cs1⟩ : Root)]) (outM r p j N)) := by
      refine re_evo (Evo.refl E) hre (by rw [List.length_append, Store.upd_length]; exact Nat.le_add_right _ _) fun r2 p2 e' cs' hlt hx => ?_
      rw [hN] at hlt
      have hx' := hx
      rw [← hN] at hx'
      rcases out_split h1 h2 hx' with ⟨k1, _⟩ | ⟨k1, _, c2, k2, _⟩
      · omega
      · exact ⟨by simp only [outM, if_neg (show r2 ≠ N by omega)], c2, k2⟩
    have ev2 := evE.trans ev
    refine ⟨ev2.B, ev2.N, ev2.K, by show _ ≤ (reS _ _).length; rw [reS_length, Store.upd_length]; exact Nat.le_refl _, fun k b hb => ⟨re_okz hRe (ev2.fz k b hb).1, (ev2.fz k b hb).2⟩, fun r2 p2 e' cs'' hlt hx => ?_⟩
    rcases spl hx with ⟨rfl, s, rfl, c2, k1, rfl⟩ | ⟨k0, cs', k1, k2, k3⟩
    · obtain ⟨⟨c3, m1⟩, m2, m3⟩ := ev.node N s e' c2 (by show N < (E.S.upd r2 p (·.set j (.ref N [] 0 n)) ++ [(⟨e, true, cs1⟩ : Root)]).length; rw [List.length_append, Store.upd_length, hN]; exact Nat.lt_succ_self _) (by rw [hnew]; exact k1)
      have em : inM r2 p j N r2 ((p ++ [j]) ++ s) = (N, s) := by simp only [inM, if_true]; rw [stripP_app]
      have hphi : (E2.re (reS (inF r2 p j N) (E.S.upd r2 p (·.set j (.sl true 0 n e cs2)))) (inM r2 p j N)).φ r2 ((p ++ [j]) ++ s) = E.φ r2 ((p ++ [j]) ++ s) := by
        show E2.φ (inM r2 p j N r2 ((p ++ [j]) ++ s)).1 (inM r2 p j N r2 ((p ++ [j]) ++ s)).2 = _
        rw [em]
        exact m2.trans (hNe s)
      rw [hNe] at m3
      refine ⟨⟨c3, ?_⟩, hphi, m3⟩
      have m1' : (E.S.upd r2 p (·.set j (.ref N [] 0 n)) ++ [(⟨e, true, cs1⟩ : Root)]).at false N s = some (e', c3) := m1
      rw [← hN] at m1'
      rcases out_split h1 h2 m1' with ⟨_, q1⟩ | ⟨q1, _⟩
      · exact q1
      · exact absurd rfl q1
    · rw [hN] at hlt
      have hx2 : E2.S.at false r2 p2 = some (e', cs') := (hold _ _ _ (by omega)).trans k1
      obtain ⟨m1, m2, m3⟩ := ev2.node r2 p2 e' cs' (by omega) hx2
      refine ⟨m1, ?_, m3⟩
      have em : inM r p j N r2 p2 = (r2, p2) := by
        by_cases e2 : r2 = r
        · subst e2; simp only [inM, if_true]; rw [k0 rfl]
        · simp only [inM, if_neg e2]
      show E2.φ (inM r p j N r2 p2).1 (inM r p j N r2 p2).2 = _
      rw [em]; exact m2

end Go.TL

/- From a function's body to its contract. No conditions. -/
namespace Go.TL
set_option linter.unusedSimpArgs false
open Go.RowKit

def resT1 (P : Program) (S : Store) (fr : Nat → T) : ResultVar → Option T
  | .tmp t => some (fr t)
  | .cell a ty => loadT P S ty (fr a)

def resTs (P : Program) (S : Store) (fr : Nat → T) : List ResultVar → Option (List T)
  | [] => some []
  | r :: rs => match resT1 P S fr r, resTs P S fr rs with
    | some t, some ts => some (t :: ts)
    | _, _ => none

def packT : List T → T
  | [t] => t
  | ts => .tup ts

def initF (args : List T) : Nat → T := fun i => (args[i]?).getD (.v undef)

theorem loadVar_runs {P : Program} {E : Env} {w0 : World} {n : Nat} {fr : Nat → T} {a : Act} (h : Inv E w0) (hf : FR E n fr a) {t : TypeId} {x : Tmp} {r : T} (hr : loadT P E.S t (fr x) = some r) :
    ∃ v, (do loadVar t (← asAddr (a.tmps.getD x undef)) : Sem Value).run P E.w = .ok v E.w ∧ TR E r v := by
  have hev : TL.ev fr (.tmp x) = fr x := rfl
  obtain ⟨v, h1, h5⟩ := load_pure (P := P) (o := { (default : Oper) with op := .load t (.tmp x) }) rfl h hf (by rw [hev]; exact hr)
  have hx := hf.tr x
  have he : a.eval (.tmp x) = a.tmps.getD x undef := rfl
  have hp : ∃ ad, a.tmps.getD x undef = .pointer (some ad) := by
    unfold loadT at hr
    split at hr
    case h_2 => cases hr
    split at hr
    case h_2 => cases hr
    split at hr
    · rename_i r' p' off' hxo
      rw [hxo] at hx
      split at hr
      case h_2 => cases hr
      rename_i e cs hn
      generalize a.tmps.getD x undef = val at hx
      cases hx with
      | ptr _ hh => exact ⟨_, hh _ hn⟩
    · rename_i k cs off' hxo
      rw [hxo] at hx
      generalize a.tmps.getD x undef = val at hx
      cases hx with
      | pz => exact ⟨_, rfl⟩
    · cases hr
  obtain ⟨ad, hp⟩ := hp
  simp only [execOp, he, hp, Instr.loadAt, Instr.sureAddr, Sem.run_bind, Sem.run_pure, Result.andThen_ok] at h1
  refine ⟨v, ?_, h5⟩
  simp only [hp, asAddr, Sem.run_bind, Sem.run_pure, Result.andThen_ok]
  cases hl : (loadVar t ad).run P E.w with
  | ok v' w' => rw [hl] at h1; simp only [Result.andThen_ok, Result.ok.injEq, Next.value.injEq] at h1; rw [h1.1, h1.2]
  | halt x w' => rw [hl] at h1; simp [Result.andThen] at h1

theorem resTs_run {P : Program} {E : Env} {w0 : World} {n : Nat} {fr : Nat → T} {a : Act} (h : Inv E w0) (hf : FR E n fr a) : ∀ (rs : List ResultVar) (ts : List T), resTs P E.S fr rs = some ts →
    ∃ vs : List Value, (rs.mapM fun | .tmp t => pure (a.tmps.getD t undef) | .cell x t => do loadVar t (← asAddr (a.tmps.getD x undef)) : Sem (List Value)).run P E.w = .ok vs E.w ∧ vs.length = ts.length ∧ ∀ i t, ts[i]? = some t → TR E t (vs.getD i undef)
  | [], ts, hr => by
    simp only [resTs, Option.some.injEq] at hr
    subst hr
    exact ⟨[], by simp, rfl, fun i t hi => by simp at hi⟩
  | r :: rs, ts, hr => by
    unfold resTs at hr
    split at hr
    case h_2 => cases hr
    rename_i t ts' h1 h2
    cases hr
    obtain ⟨vs, h3, h4, h5⟩ := resTs_run h hf rs ts' h2
    have hv : ∃ v, ((match r with | .tmp t => pure (a.tmps.getD t undef) | .cell x t => do loadVar t (← asAddr (a.tmps.getD x undef)) : Sem Value)).run P E.w = .ok v E.w ∧ TR E t v := by
      cases r with
      | tmp x => simp only [resT1, Option.some.injEq] at h1; subst h1; exact ⟨_, by simp, hf.tr x⟩
      | cell x ty => exact loadVar_runs h hf h1
    obtain ⟨v, h6, h7⟩ := hv
    refine ⟨v :: vs, ?_, by simp [h4], fun i t' hi => ?_⟩
    · rw [List.mapM_cons]
      simp only [Sem.run_bind, h6, Result.andThen_ok, h3, Sem.run_pure]
    · cases i with
      | zero => simp at hi; subst hi; exact h7
      | succ i => exact h5 i t' (by simpa using hi)

theorem results_run {P : Program} {E : Env} {w0 : World} {n : Nat} {fr : Nat → T} {a : Act} (h : Inv E w0) (hf : FR E n fr a) {fn : Func} {ts : List T} (hr : resTs P E.S fr fn.results.toList = some ts) :
    ∃ v, (results fn a.tmps).run P E.w = .ok v E.w ∧ TR E (packT ts) v := by
  obtain ⟨vs, h1, h2, h3⟩ := resTs_run h hf _ _ hr
  have hm : (fn.results.mapM fun | .tmp t => pure (a.tmps.getD t undef) | .cell x t => do loadVar t (← asAddr (a.tmps.getD x undef)) : Sem (Array Value)).run P E.w = .ok vs.toArray E.w := by
    rw [Array.mapM_eq_mapM_toList, Sem.run_map, h1]
    rfl
  refine ⟨if h : vs.toArray.size = 1 then vs.toArray[0] else .tuple vs.toArray, ?_, ?_⟩
  · unfold results
    rw [Sem.run_bind]
    exact (congrArg (fun r => Result.andThen r fun (vs : Array Value) w' => (pure (if h : vs.size = 1 then vs[0] else .tuple vs) : Sem Value).run P w') hm).trans rfl
  · match ts, h2, h3 with
    | [t], h2, h3 =>
      obtain ⟨v, rfl⟩ : ∃ v, vs = [v] := by
        cases vs with
        | nil => simp at h2
        | cons v l => cases l with
          | nil => exact ⟨v, rfl⟩
          | cons => simp at h2
      exact h3 0 t rfl
    | [], h2, h3 =>
      have : vs = [] := List.eq_nil_of_length_eq_zero (by simpa using h2)
      subst this
      exact .tup rfl fun i t hi => by simp at hi
    | t1 :: t2 :: ts, h2, h3 =>
      have hne : ¬ vs.toArray.size = 1 := by simp [h2]
      rw [dif_neg hne]
      refine .tup (by simpa using h2) fun i t hi => ?_
      have := h3 i t hi
      rw [Array.getD_eq_getD_getElem?, List.getElem?_toArray, ← List.getD_eq_getElem?_getD]
      exact this

def Ex.ends : Ex → Prop
  | .exit _ => False
  | _ => True

/-- What the end of a body says. -/
def EndT (P : Program) (M : Nat) (fn : Func) (res : T) (S1 : Store) (ex : Ex) (fr : Nat → T) (S : Store) : Prop :=
  ex.ends ∧ ∀ (E E0 : Env) (a : Act) (w0 : World), E0.S.length = M → E.S = S → Evo E0 E → Inv E w0 → FR E fn.ntmps fr a →
    ∃ v, (results fn a.tmps).run P E.w = .ok v E.w ∧ ∃ E', E'.w = E.w ∧ E'.S = S1 ∧ Inv E' w0 ∧ Evo E0 E' ∧ TR E' res v

theorem EndT.of {P : Program} {M : Nat} {fn : Func} {res : T} {S1 : Store} {ex : Ex} {fr : Nat → T} {S : Store} (hx : ex.ends)
    (h : ∃ ts keep fz, resTs P S fr fn.results.toList = some ts ∧ Gc M S fr S1 (fun _ => .dead) keep fz ∧ Wk (gcT keep (fzAllT fz S (packT ts))) res) : EndT P M fn res S1 ex fr S := by
  refine ⟨hx, fun E E0 a w0 hM hS hE hI hF => ?_⟩
  subst hS
  obtain ⟨ts, keep, fz, h1, hg, hres⟩ := h
  obtain ⟨v, h2, h3⟩ := results_run hI hF h1
  obtain ⟨E2, k1, k2, k3, k4, _, k6⟩ := hg.frees hI hM hE hF
  exact ⟨v, h2, E2, k1, k2, k3, k4, (k6 _ _ h3).wk hres⟩

/-- Rows frozen, put into cells and taken out of cells, roots dropped, ahead of the end. -/
theorem EndT.gc {P : Program} {M : Nat} {fn : Func} {res : T} {S1 : Store} {ex : Ex} {fr fr2 : Nat → T} {S S2 : Store} {keep : List Nat} {fz : List Gh} (hg : Gc M S fr S2 fr2 keep fz) (h : EndT P M fn res S1 ex fr2 S2) : EndT P M fn res S1 ex fr S := by
  refine ⟨h.1, fun E E0 a w0 hM hS hE hI hF => ?_⟩
  subst hS
  obtain ⟨E2, h1, h2, h3, h4, h5, _⟩ := hg.frees hI hM hE hF
  obtain ⟨v, k1, E3, k2, k3⟩ := h.2 E2 E0 a w0 hM h2 h4 h3 h5
  rw [h1] at k1 k2
  exact ⟨v, k1, E3, k2, k3⟩

theorem CallsT.of_W {P : Program} {g : FuncId} {fn : Func} {c : Code} {S : Store} {args : List T} {res : T} {S1 : Store} (hf : P.funcs[g]? = some fn) (hb : fn.body = some c) (hn : (fn.name == "runtime.NumGoroutine") = false) (ha : args.length ≤ fn.ntmps)
    (hw : W P S.length fn.ntmps c (EndT P S.length fn res S1) (initF args) S) : CallsT P S g args res S1 := by
  refine ⟨⟨fn, hf, by rw [hb]; rfl, hn⟩, fun E w0 vals hS hI hsz ht => ?_⟩
  subst hS
  refine calls_of_wp hf hb ?_
  have hFR : FR E fn.ntmps (initF args) { tmps := vals ++ Array.replicate (fn.ntmps - vals.size) undef, defers := [] } := by
    refine ⟨by simp; omega, fun t => ?_⟩
    unfold initF
    rcases Nat.lt_or_ge t args.length with hlt | hge
    · rw [List.getElem?_eq_getElem hlt]
      have := ht t _ (List.getElem?_eq_getElem hlt)
      rw [Array.getD_eq_getD_getElem?, Array.getElem?_append_left (by omega), ← Array.getD_eq_getD_getElem?]
      exact this
    · rw [List.getElem?_eq_none hge]
      have hu : (vals ++ Array.replicate (fn.ntmps - vals.size) undef).getD t undef = undef := by
        rw [Array.getD_eq_getD_getElem?, Array.getElem?_append_right (by omega), Array.getElem?_replicate]
        split <;> rfl
      simp only [Option.getD_none]
      rw [hu]
      exact .v _
  refine wp_mono (hw E _ E w0 rfl rfl (Evo.refl E) hI hFR) fun e a' w' hp => ?_
  obtain ⟨ex, fr', E', rfl, hq, rfl, hI', hE, hF, hd⟩ := hp
  have fin : EndT P E.S.length fn res S1 ex fr' E'.S → a'.defers = [] ∧ ∃ v, (results fn a'.tmps).run P E'.w = .ok v E'.w ∧ ∃ v_1 E'_1, Ending.returned v = Ending.returned v_1 ∧ E'_1.w = E'.w ∧ E'_1.S = S1 ∧ Inv E'_1 w0 ∧ Evo E E'_1 ∧ TR E'_1 res v_1 := by
    intro hq
    obtain ⟨v, h2, E2, k1, k2, k3, k4, k5⟩ := hq.2 E' E a' w0 rfl rfl hE hI' hF
    exact ⟨hd, v, h2, v, E2, rfl, k1, k2, k3, k4, k5⟩
  cases ex with
  | normal => exact fin hq
  | ret => exact fin hq
  | exit i => exact hq.1.elim

end Go.TL

/- Laws that reckon operations on trees, and rules that walk code one step at a time. No conditions. -/
namespace Go.TL
set_option linter.unusedSimpArgs false
open Go.RowKit

def shrI (k : IntKind) (a b : Int) : Int := a.fdiv (2 ^ min b.toNat k.bits)
theorem shr64 (x : Int) (n : Nat) (hn : n ≤ 63) : shrI .i64 x n = x / 2 ^ n := by
  unfold shrI
  rw [show min (Int.toNat (n : Int)) IntKind.i64.bits = n by simp only [Int.toNat_natCast, IntKind.bits]; omega]
  exact Int.fdiv_eq_ediv_of_nonneg _ (Int.le_of_lt (Int.pow_pos (by decide)))
def and64 (a b : Int) : Int := IntKind.i64.wrap (BitVec.ofInt 64 a &&& BitVec.ofInt 64 b).toNat
def or64 (a b : Int) : Int := IntKind.i64.wrap (BitVec.ofInt 64 a ||| BitVec.ofInt 64 b).toNat
def xor64 (a b : Int) : Int := IntKind.i64.wrap (BitVec.ofInt 64 a ^^^ BitVec.ofInt 64 b).toNat

theorem wrap64_in {x : Int} (h : -9223372036854775808 ≤ x ∧ x ≤ 9223372036854775807) : wrap64 x = x := IntWalk.wrap64_in x h

theorem bv_nat (x : Nat) (h : x < 2 ^ 63) : (BitVec.ofInt 64 (x : Int)).toNat = x := by
  rw [BitVec.toNat_ofInt]
  omega

theorem and64_nat (x y : Nat) (hx : x < 2 ^ 63) (hy : y < 2 ^ 63) : and64 x y = ((x &&& y : Nat) : Int) := by
  unfold and64
  rw [BitVec.toNat_and, bv_nat x hx, bv_nat y hy, IntWalk.i64_left, wrap64_in]
  have := Nat.and_le_left (n := x) (m := y)
  omega

theorem or64_nat (x y : Nat) (hx : x < 2 ^ 63) (hy : y < 2 ^ 63) : or64 x y = ((x ||| y : Nat) : Int) := by
  unfold or64
  rw [BitVec.toNat_or, bv_nat x hx, bv_nat y hy, IntWalk.i64_left, wrap64_in]
  have := Nat.or_lt_two_pow hx hy
  omega

theorem and64_mask (k : Nat) (hk : k ≤ 62) (x : Int) (h0 : 0 ≤ x) (h1 : x < 2 ^ 63) (m : Int) (hm : m = 2 ^ k - 1) : and64 x m = x % 2 ^ k := by
  subst hm
  obtain ⟨n, rfl⟩ := Int.eq_ofNat_of_zero_le h0
  have hp : 0 < 2 ^ k := Nat.two_pow_pos k
  have hlt : 2 ^ k ≤ 2 ^ 62 := Nat.pow_le_pow_right (by decide) hk
  have e : ((2 : Int) ^ k - 1) = ((2 ^ k - 1 : Nat) : Int) := by
    rw [Int.natCast_sub (by omega)]
    simp
  rw [e, and64_nat n _ (by omega) (by omega), Nat.and_two_pow_sub_one_eq_mod]
  simp

theorem or64_high (k : Nat) (hk : k ≤ 62) (x : Int) (h0 : 0 ≤ x) (h1 : x < 2 ^ k) (m : Int) (hm : m = 2 ^ k) : or64 x m = x + 2 ^ k := by
  subst hm
  obtain ⟨n, rfl⟩ := Int.eq_ofNat_of_zero_le h0
  have hlt : 2 ^ k ≤ 2 ^ 62 := Nat.pow_le_pow_right (by decide) hk
  have e : ((2 : Int) ^ k) = ((2 ^ k : Nat) : Int) := by simp
  rw [e] at h1 ⊢
  have hn : n < 2 ^ k := by omega
  have := Nat.two_pow_add_eq_or_of_lt hn 1
  rw [Nat.mul_one] at this
  rw [or64_nat n _ (by omega) (by omega), Nat.or_comm, ← this]
  omega

section
variable (P : Program) (t : TypeId) (xo yo : Operand) (k : IntKind) (a b : Int)
theorem b_lss : binT P .lss t xo yo (.v (.int k a)) (.v (.int k b)) = some (.v (.bool (decide (a < b)))) := by simp [binT, toV, eqGuard, binOp, Op.intCmp, ofV]
theorem b_leq : binT P .leq t xo yo (.v (.int k a)) (.v (.int k b)) = some (.v (.bool (decide (a ≤ b)))) := by simp [binT, toV, eqGuard, binOp, Op.intCmp, ofV]
theorem b_gtr : binT P .gtr t xo yo (.v (.int k a)) (.v (.int k b)) = some (.v (.bool (decide (b < a)))) := by simp [binT, toV, eqGuard, binOp, Op.intCmp, ofV]
theorem b_geq : binT P .geq t xo yo (.v (.int k a)) (.v (.int k b)) = some (.v (.bool (decide (b ≤ a)))) := by simp [binT, toV, eqGuard, binOp, Op.intCmp, ofV]
theorem b_eql : binT P .eql t xo yo (.v (.int k a)) (.v (.int k b)) = some (.v (.bool (decide (a = b)))) := by
  simp [binT, toV, eqGuard, binOp, Op.intCmp, ofV]; rfl
theorem b_neq : binT P .neq t xo yo (.v (.int k a)) (.v (.int k b)) = some (.v (.bool (!decide (a = b)))) := by
  simp [binT, toV, eqGuard, binOp, Op.intCmp, ofV]; rfl
theorem b_add : binT P .add t xo yo (.v (.int .i64 a)) (.v (.int .i64 b)) = some (.v (.int .i64 (wrap64 (a + b)))) := by simp [binT, toV, eqGuard, binOp, Op.intArith, ofV, IntWalk.i64_left]
theorem b_sub : binT P .sub t xo yo (.v (.int .i64 a)) (.v (.int .i64 b)) = some (.v (.int .i64 (wrap64 (a - b)))) := by simp [binT, toV, eqGuard, binOp, Op.intArith, ofV, IntWalk.i64_left]
theorem b_mul : binT P .mul t xo yo (.v (.int .i64 a)) (.v (.int .i64 b)) = some (.v (.int .i64 (wrap64 (a * b)))) := by simp [binT, toV, eqGuard, binOp, Op.intArith, ofV, IntWalk.i64_left]
theorem b_quo (h : b ≠ 0) : binT P .quo t xo yo (.v (.int .i64 a)) (.v (.int .i64 b)) = some (.v (.int .i64 (wrap64 (a.tdiv b)))) := by simp [binT, toV, eqGuard, binOp, Op.intDiv, ofV, h, IntWalk.i64_left]
theorem b_rem (h : b ≠ 0) : binT P .rem t xo yo (.v (.int .i64 a)) (.v (.int .i64 b)) = some (.v (.int .i64 (a.tmod b))) := by simp [binT, toV, eqGuard, binOp, Op.intDiv, ofV, h]
theorem b_and : binT P .and t xo yo (.v (.int .i64 a)) (.v (.int .i64 b)) = some (.v (.int .i64 (and64 a b))) := by simp [binT, toV, eqGuard, binOp, Op.intBits, ofV]; rfl
theorem b_or : binT P .or t xo yo (.v (.int .i64 a)) (.v (.int .i64 b)) = some (.v (.int .i64 (or64 a b))) := by simp [binT, toV, eqGuard, binOp, Op.intBits, ofV]; rfl
theorem b_xor : binT P .xor t xo yo (.v (.int .i64 a)) (.v (.int .i64 b)) = some (.v (.int .i64 (xor64 a b))) := by simp [binT, toV, eqGuard, binOp, Op.intBits, ofV]; rfl
theorem b_shr (k' : IntKind) (h : 0 ≤ b) : binT P .shr t xo yo (.v (.int k a)) (.v (.int k' b)) = some (.v (.int k (shrI k a b))) := by
  have h : ¬ b < 0 := by omega
  simp [binT, toV, eqGuard, binOp, Op.shift, ofV, h]; rfl
theorem b_shl (k' : IntKind) (h : 0 ≤ b) : binT P .shl t xo yo (.v (.int k a)) (.v (.int k' b)) = some (.v (.int k (k.wrap (a * 2 ^ min b.toNat k.bits)))) := by
  have h : ¬ b < 0 := by omega
  simp [binT, toV, eqGuard, binOp, Op.shift, ofV, h]
end

/-! ### Rules that walk code -/
section
variable {P : Program} {M n : Nat} {fr : Nat → T} {S : Store} {Q : Ex → (Nat → T) → Store → Prop}
theorem r_seq {a b : Code} (h : wpT P M n a (Ex.seq (wpT P M n b Q) Q) fr S) : wpT P M n (.seq a b) Q fr S := W.seq h fun _ _ h => h
theorem r_region {id : Nat} {l : List Oper} (h : wpOpsT P l.toArray n .txt l (Q .normal) fr S) : wpT P M n (.region id l.toArray false) Q fr S := W.region (by simpa using h)
/-- A region whose order is drawn. -/
theorem r_draw {id : Nat} {l : List Oper} (h : wpOpsT P l.toArray n (.any 0 [] []) l (Q .normal) fr S) (hm : P.follows .mixedOrders = true := by kernel_rfl) (hok : drawOk l.toArray = true := by decide +kernel) : wpT P M n (.region id l.toArray true) Q fr S :=
  W.draw hm hok (by simpa using h)
theorem r_cond {c : Operand} {a b : Code} (t : Bool) (hc : TL.ev fr c = .v (.bool t)) (h1 : t = true → wpT P M n a Q fr S) (h2 : t = false → wpT P M n b Q fr S) : wpT P M n (.cond c a b) Q fr S :=
  W.cond hc h1 h2
theorem r_block {id : Nat} {a : Code} (h : wpT P M n a (Ex.block id Q) fr S) : wpT P M n (.block id a) Q fr S := W.block h
theorem r_loop {a : Code} (h : LoopT M (fun Q' => W P M n a Q') Q fr S) : wpT P M n (.loop a) Q fr S := W.loop h
theorem r_skip (h : Q .normal fr S) : wpT P M n .skip Q fr S := W.of_skip h
theorem r_exit {id : Nat} (h : Q (.exit id) fr S) : wpT P M n (.exit id) Q fr S := W.exit h
theorem r_ret (h : Q .ret fr S) : wpT P M n .ret Q fr S := W.ret h
theorem r_ops {pu : Dr} {ops : Array Oper} {K : (Nat → T) → Store → Prop} (h : K fr S) : wpOpsT P ops n pu [] K fr S := h
theorem x_seq_n {A : (Nat → T) → Store → Prop} (h : A fr S) : Ex.seq A Q .normal fr S := h
theorem x_seq_r {A : (Nat → T) → Store → Prop} (h : Q .ret fr S) : Ex.seq A Q .ret fr S := h
theorem x_seq_e {A : (Nat → T) → Store → Prop} {id : Nat} (h : Q (.exit id) fr S) : Ex.seq A Q (.exit id) fr S := h
theorem x_block_n {id : Nat} (h : Q .normal fr S) : Ex.block id Q .normal fr S := h
theorem x_block_r {id : Nat} (h : Q .ret fr S) : Ex.block id Q .ret fr S := h
theorem x_block_e {id : Nat} (h : Q .normal fr S) : Ex.block id Q (.exit id) fr S := by simpa [Ex.block] using h
theorem x_block_o {id i : Nat} (hne : (i == id) = false) (h : Q (.exit i) fr S) : Ex.block id Q (.exit i) fr S := by
  simp only [Ex.block]; rw [if_neg (by simpa using hne)]; exact h

/-- One operation. -/
theorem r_op {pu pu' : Dr} {ops : Array Oper} {o : Oper} {rest : List Oper} {K : (Nat → T) → Store → Prop} {t : T} {S' : Store} (hop : opT P ops n fr S o t S') (hp : Dr.step P ops n pu fr S o t S' pu') (h : wpOpsT P ops n pu' rest K (put fr o.dst t) S') : wpOpsT P ops n pu (o :: rest) K fr S := ⟨t, S', pu', hop, hp, h⟩

theorem opT_do {ops : Array Oper} {o : Oper} {t : T} {S' : Store} (hw : wantedT ops fr o = some true) (hd : okDst n o.dst = true) (hc : calleeT fr o = none) (hs : stepT P S fr o = some (t, S')) : opT P ops n fr S o t S' := by
  simp only [opT, hw, hc]
  exact ⟨hd, hs⟩
theorem opT_call {ops : Array Oper} {o : Oper} {t : T} {S' : Store} {g : FuncId} {args : List T} (hw : wantedT ops fr o = some true) (hd : okDst n o.dst = true) (hc : calleeT fr o = some (g, args)) (hs : CallsT P S g args t S') : opT P ops n fr S o t S' := by
  simp only [opT, hw, hc]
  exact ⟨hd, hs⟩
theorem opT_not {ops : Array Oper} {o : Oper} (hw : wantedT ops fr o = some false) (hd : okDst n o.dst = true) : opT P ops n fr S o (.v undef) S := by
  simp only [opT, hw]
  exact ⟨hd, trivial, trivial⟩

end

theorem ev_tmp (fr : Nat → T) (i : Nat) : ev fr (.tmp i) = fr i := of_eq_true (eq_self _)
theorem ev_const (fr : Nat → T) (x : Value) : ev fr (.const x) = .v x := of_eq_true (eq_self _)

end Go.TL
