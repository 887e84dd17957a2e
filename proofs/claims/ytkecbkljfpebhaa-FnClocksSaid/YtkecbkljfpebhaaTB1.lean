/- The logic on trees, texts joined. No conditions. -/
import Derived.Below
import Derived.Orders
import Derived.Test.YtkecbkljfpebhaaGl
import Derived.Laws.Cells
import Derived.Laws.BytesArg
import Derived.Lib.ConvBytes
import Derived.Laws.IdiomCopy
import Derived.Laws.AppendOwn
import Derived.Laws.StructEq
import Derived.ChangeKeysEq
/- The trees that stand for Go values, the roots that stand for a call's own memory, and what both say of a world of the model. No conditions. -/
namespace Go.TL
set_option linter.unusedSimpArgs false
open Go.RowKit

inductive T where
  | v (x : Value)
  | sl (own : Bool) (k n e : Nat) (cs : List T)
  | ref (r : Nat) (p : List Nat) (off n : Nat)
  | ptr (r : Nat) (p : List Nat) (off : Nat)
  | pz (k : Nat) (cs : List T) (off : Nat)
  | agg (cs : List T)
  | tup (cs : List T)
  | clo (f : FuncId) (cs : List T)
  | dead

instance : Inhabited T := ⟨.dead⟩

structure Root where
  e : Nat
  live : Bool
  cs : List T

abbrev Store := List Root

def cellsAt (any : Bool) : Nat → List T → List Nat → Option (Nat × List T)
  | e, cs, [] => some (e, cs)
  | _, cs, c :: p => match cs[c]? with
    | some (.sl true k _ e' cs') => if any || k == 0 then cellsAt any e' cs' p else none
    | _ => none

def Store.at (any : Bool) (S : Store) (r : Nat) (p : List Nat) : Option (Nat × List T) :=
  match S[r]? with
  | some x => if x.live then cellsAt any x.e x.cs p else none
  | none => none

inductive FzR (w : World) (ok : Nat → Prop) : T → Value → Prop
  | v (x : Value) (h : x.oneCell' = true) : FzR w ok (.v x) x
  | sl {o : Bool} {k n e : Nat} {cs : List T} {A : Option Addr} {cap : Nat} (b off : Nat) (f : Nat → Value) (hn : cs.length = n * e) (hc : n ≤ cap)
      (ha : cs = [] ∨ (A = some ⟨b, off, none⟩ ∧ ok b)) (hcell : ∀ j c, cs[j]? = some c → w.cell? ⟨b, off + j, none⟩ = some (f j))
      (hrec : ∀ j c, cs[j]? = some c → FzR w ok c (f j)) : FzR w ok (.sl o k n e cs) (.slice A n cap)

def SlV (w : World) (b e off n : Nat) (val : Value) : Prop :=
  ∃ cap arr ty mk, w.heap[b]? = some (.cells arr ty mk) ∧ n ≤ cap ∧ off + cap * e ≤ arr.size ∧ val = .slice (some ⟨b, off, none⟩) n cap

structure Env where
  w : World
  S : Store
  φ : Nat → List Nat → Nat
  B : Nat
  N : Nat
  K : Nat → Nat → Prop

def Env.own (E : Env) (b : Nat) : Prop := ∃ r p x, E.S.at true r p = some x ∧ E.φ r p = b

def Env.okz (E : Env) (k b : Nat) : Prop := b < E.w.heap.size ∧ ¬ E.own b ∧ (b < E.N → E.K k b)

inductive TR (E : Env) : T → Value → Prop
  | v (x : Value) : TR E (.v x) x
  | sl {k n e : Nat} {cs : List T} {val : Value} (h : FzR E.w (E.okz k) (.sl false k n e cs) val) : TR E (.sl false k n e cs) val
  | ref {r : Nat} {p : List Nat} {off n : Nat} {val : Value} (hr : r < E.S.length) (h : ∀ e cs, E.S.at false r p = some (e, cs) → SlV E.w (E.φ r p) e off n val) : TR E (.ref r p off n) val
  | ptr {r : Nat} {p : List Nat} {off : Nat} {val : Value} (hr : r < E.S.length) (h : ∀ x, E.S.at false r p = some x → val = .pointer (some ⟨E.φ r p, off, none⟩)) : TR E (.ptr r p off) val
  | pz {k : Nat} {cs : List T} {off b o : Nat} (f : Nat → Value) (hok : E.okz k b) (hcell : ∀ j c, cs[j]? = some c → E.w.cell? ⟨b, o + j, none⟩ = some (f j))
      (hrec : ∀ j c, cs[j]? = some c → FzR E.w (E.okz k) c (f j)) : TR E (.pz k cs off) (.pointer (some ⟨b, o + off, none⟩))
  | agg {ts : List T} {vs : Array Value} (hs : vs.size = ts.length) (h : ∀ i t, ts[i]? = some t → TR E t (vs.getD i undef)) : TR E (.agg ts) (.agg vs)
  | tup {ts : List T} {vs : Array Value} (hs : vs.size = ts.length) (h : ∀ i t, ts[i]? = some t → TR E t (vs.getD i undef)) : TR E (.tup ts) (.tuple vs)
  | clo {f : FuncId} {ts : List T} {vs : Array Value} (hs : vs.size = ts.length) (h : ∀ i t, ts[i]? = some t → TR E t (vs.getD i undef)) : TR E (.clo f ts) (.func (.func f) #[] vs)
  | dead (val : Value) : TR E .dead val

/-- What a cell of the call's own memory says of the value that lies there. -/
inductive CR (E : Env) (r : Nat) (p : List Nat) (j : Nat) : T → Value → Prop
  | v (x : Value) (h : x.oneCell' = true) : CR E r p j (.v x) x
  | fz {k n e : Nat} {cs : List T} {val : Value} (h : FzR E.w (E.okz k) (.sl false k n e cs) val) : CR E r p j (.sl false k n e cs) val
  | own {k n e : Nat} {cs : List T} {val : Value} (hn : cs.length = n * e) (h : SlV E.w (E.φ r (p ++ [j])) e 0 n val) : CR E r p j (.sl true k n e cs) val
  | ref {r' : Nat} {p' : List Nat} {off n : Nat} {val : Value} (hv : val.oneCell' = true) (h : TR E (.ref r' p' off n) val) : CR E r p j (.ref r' p' off n) val
  | dead (val : Value) (hv : val.oneCell' = true) : CR E r p j .dead val

def MkOk (mk : Nat × Nat) (n e : Nat) : Prop := ∀ o, (o < n ∨ (o = n ∧ e ≠ 1)) → ¬ (mk.1 ≤ o ∧ o < mk.2)

structure Inv (E : Env) (w0 : World) : Prop where
  below : Below E.B w0 E.w
  hB : E.B ≤ w0.heap.size ∧ Gl w0 E.B
  hN : E.N ≤ w0.heap.size
  blk : ∀ r p e cs, E.S.at true r p = some (e, cs) → ∃ arr ty mk, E.w.heap[E.φ r p]? = some (.cells arr ty mk) ∧ cs.length ≤ arr.size ∧ MkOk mk arr.size e ∧ E.B ≤ E.φ r p ∧
    ∀ j c, cs[j]? = some c → CR E r p j c (arr.getD j undef)
  inj : ∀ r p x r' p' x', E.S.at true r p = some x → E.S.at true r' p' = some x' → E.φ r p = E.φ r' p' → r = r' ∧ p = p'
  frz : ∀ r p x, E.S.at true r p = some x → E.φ r p < E.N → E.K 0 (E.φ r p)

structure Evo (E E' : Env) : Prop where
  B : E'.B = E.B
  N : E'.N = E.N
  K : E'.K = E.K
  len : E.S.length ≤ E'.S.length
  fz : ∀ k b, E.okz k b → E'.okz k b ∧ E'.w.heap[b]? = E.w.heap[b]?
  node : ∀ r p e cs', r < E.S.length → E'.S.at false r p = some (e, cs') → (∃ cs, E.S.at false r p = some (e, cs)) ∧ E'.φ r p = E.φ r p ∧
    ∀ arr ty mk, E.w.heap[E.φ r p]? = some (.cells arr ty mk) → ∃ arr', E'.w.heap[E.φ r p]? = some (.cells arr' ty mk) ∧ arr'.size = arr.size

theorem Evo.refl (E : Env) : Evo E E :=
  ⟨rfl, rfl, rfl, Nat.le_refl _, fun _ _ h => ⟨h, rfl⟩, fun _ _ _ cs' _ h => ⟨⟨cs', h⟩, rfl, fun arr _ _ h => ⟨arr, h, rfl⟩⟩⟩

theorem Evo.trans {A B C : Env} (h : Evo A B) (k : Evo B C) : Evo A C where
  B := k.B.trans h.B
  N := k.N.trans h.N
  K := k.K.trans h.K
  len := Nat.le_trans h.len k.len
  fz := fun t b hb => ⟨(k.fz t b (h.fz t b hb).1).1, ((k.fz t b (h.fz t b hb).1).2).trans (h.fz t b hb).2⟩
  node := fun r p e cs' hr hx => by
    obtain ⟨⟨c1, h1⟩, h2, h3⟩ := k.node r p e cs' (Nat.lt_of_lt_of_le hr h.len) hx
    obtain ⟨h4, h5, h6⟩ := h.node r p e c1 hr h1
    refine ⟨h4, h2.trans h5, fun arr ty mk ha => ?_⟩
    obtain ⟨a1, ha1, s1⟩ := h6 arr ty mk ha
    obtain ⟨a2, ha2, s2⟩ := h3 a1 ty mk (by rw [h5]; exact ha1)
    exact ⟨a2, by rw [← h5]; exact ha2, s2.trans s1⟩

theorem cell_of_heap {w w' : World} {a : Addr} (h : w'.heap[a.block]? = w.heap[a.block]?) : w'.cell? a = w.cell? a := World.cell?_of_block h

theorem FzR.evo {w w' : World} {ok ok' : Nat → Prop} {t : T} {val : Value} (h : FzR w ok t val) (hok : ∀ b, ok b → ok' b ∧ w'.heap[b]? = w.heap[b]?) : FzR w' ok' t val := by
  induction h with
  | v x hx => exact .v x hx
  | sl b off f hn hc ha hcell hrec ih =>
    rcases ha with ha | ⟨ha, hb⟩
    · subst ha
      exact .sl b off f hn hc (.inl rfl) (fun j c h => by simp at h) (fun j c h => by simp at h)
    · exact .sl b off f hn hc (.inr ⟨ha, (hok b hb).1⟩) (fun j c h => (cell_of_heap (hok b hb).2).trans (hcell j c h)) ih

theorem SlV.evo {w w' : World} {b e off n : Nat} {val : Value} (h : SlV w b e off n val)
    (hs : ∀ arr ty mk, w.heap[b]? = some (.cells arr ty mk) → ∃ arr', w'.heap[b]? = some (.cells arr' ty mk) ∧ arr'.size = arr.size) : SlV w' b e off n val := by
  obtain ⟨cap, arr, ty, mk, h1, h2, h3, h4⟩ := h
  obtain ⟨arr', h5, h6⟩ := hs arr ty mk h1
  exact ⟨cap, arr', ty, mk, h5, h2, by omega, h4⟩

theorem TR.evo {E E' : Env} (h : Evo E E') {t : T} {val : Value} (ht : TR E t val) : TR E' t val := by
  induction ht with
  | v x => exact .v x
  | sl hf => exact .sl (hf.evo fun b hb => h.fz _ b hb)
  | ref hr hx =>
    refine .ref (Nat.lt_of_lt_of_le hr h.len) fun e cs' hn => ?_
    obtain ⟨⟨cs, h1⟩, h2, h3⟩ := h.node _ _ _ _ hr hn
    rw [h2]
    exact (hx e cs h1).evo h3
  | ptr hr hx =>
    refine .ptr (Nat.lt_of_lt_of_le hr h.len) fun x hn => ?_
    obtain ⟨⟨cs, h1⟩, h2, h3⟩ := h.node _ _ x.1 x.2 hr hn
    rw [h2]
    exact hx _ h1
  | pz f hok hcell hrec =>
    exact .pz f (h.fz _ _ hok).1 (fun j c hj => (cell_of_heap (h.fz _ _ hok).2).trans (hcell j c hj)) (fun j c hj => (hrec j c hj).evo fun b hb => h.fz _ b hb)
  | agg hs _ ih => exact .agg hs ih
  | tup hs _ ih => exact .tup hs ih
  | clo hs _ ih => exact .clo hs ih
  | dead val => exact .dead val

end Go.TL

/- How the roots may change: a new root, a root given up, cells written. Lemmas on 'Inv' and 'Evo'. No conditions. -/
namespace Go.TL
set_option linter.unusedSimpArgs false
open Go.RowKit

theorem Store.at_push (any : Bool) (S : Store) (x : Root) (r : Nat) (p : List Nat) :
    Store.at any (S ++ [x]) r p = if r = S.length then (if x.live then cellsAt any x.e x.cs p else none) else Store.at any S r p := by
  unfold Store.at
  by_cases h : r = S.length
  · subst h; simp
  · rw [if_neg h]
    rcases Nat.lt_or_ge r S.length with hl | hl
    · rw [List.getElem?_append_left hl]
    · rw [List.getElem?_eq_none (by simp; omega), List.getElem?_eq_none hl]

theorem Store.at_lt {any : Bool} {S : Store} {r : Nat} {p : List Nat} {x : Nat × List T} (h : Store.at any S r p = some x) : r < S.length := by
  unfold Store.at at h
  split at h
  · rename_i y hy
    exact (List.getElem?_eq_some_iff.1 hy).1
  · cases h

theorem cellsAt_any {e : Nat} {cs : List T} {p : List Nat} {x : Nat × List T} (h : cellsAt false e cs p = some x) : cellsAt true e cs p = some x := by
  induction p generalizing e cs with
  | nil => exact h
  | cons c p ih =>
    unfold cellsAt at h ⊢
    split at h
    · rename_i k n e' cs' hc
      simp only [Bool.false_or, beq_iff_eq] at h
      split at h
      · simp only [Bool.true_or, if_true]
        exact ih h
      · cases h
    · cases h

theorem Store.at_any {S : Store} {r : Nat} {p : List Nat} {x : Nat × List T} (h : Store.at false S r p = some x) : Store.at true S r p = some x := by
  unfold Store.at at h ⊢
  split at h
  · split at h
    · rename_i hl
      simp only [hl, if_true]
      exact cellsAt_any h
    · cases h
  · cases h

/-- Sizes and kinds of blocks stay. -/
def Sized (w w' : World) : Prop := ∀ (b : Nat) (arr : Array Value) (ty : TypeId) (mk : Nat × Nat), w.heap[b]? = some (Obj.cells arr ty mk) → ∃ arr' : Array Value, w'.heap[b]? = some (Obj.cells arr' ty mk) ∧ arr'.size = arr.size

theorem Sized.refl (w : World) : Sized w w := fun _ arr _ _ h => ⟨arr, h, rfl⟩

theorem CR.evo {E E' : Env} (h : Evo E E') (hs : Sized E.w E'.w) {r : Nat} {p : List Nat} {j : Nat} {t : T} {val : Value} (hφ : ∀ k n e cs, t = .sl true k n e cs → E'.φ r (p ++ [j]) = E.φ r (p ++ [j]))
    (ht : CR E r p j t val) : CR E' r p j t val := by
  cases ht with
  | v _ hx => exact .v _ hx
  | fz hf => exact .fz (hf.evo fun b hb => h.fz _ b hb)
  | own hn hv => exact .own hn (by rw [hφ _ _ _ _ rfl]; exact hv.evo (hs _))
  | ref hv ht => exact .ref hv (ht.evo h)
  | dead val hv => exact .dead val hv

theorem CR.oneCell {E : Env} {r : Nat} {p : List Nat} {j : Nat} {t : T} {val : Value} (h : CR E r p j t val) : val.oneCell' = true := by
  cases h with
  | v x hx => exact hx
  | fz hf => cases hf; rfl
  | own hn hv => obtain ⟨_, _, _, _, _, _, _, rfl⟩ := hv; rfl
  | ref hv _ => exact hv
  | dead val hv => exact hv

theorem Env.own_lt {E : Env} {w0 : World} (h : Inv E w0) {b : Nat} (hb : E.own b) : E.B ≤ b ∧ b < E.w.heap.size := by
  obtain ⟨r, p, x, hx, rfl⟩ := hb
  obtain ⟨arr, ty, mk, ha, _, _, hB, _⟩ := h.blk r p x.1 x.2 hx
  exact ⟨hB, (Array.getElem?_eq_some_iff.1 ha).1⟩

/-- Fewer nodes. -/
theorem Inv.sub {E : Env} {w0 : World} (h : Inv E w0) (S' : Store) (hl : S'.length = E.S.length)
    (hat : ∀ any r p x, Store.at any S' r p = some x → Store.at any E.S r p = some x) : Inv { E with S := S' } w0 ∧ Evo E { E with S := S' } := by
  have ev : Evo E { E with S := S' } := by
    refine ⟨rfl, rfl, rfl, by simp [hl], fun k b hb => ⟨?_, rfl⟩, fun r p e cs' hr hx => ⟨⟨cs', hat _ _ _ _ hx⟩, rfl, fun arr ty mk ha => ⟨arr, ha, rfl⟩⟩⟩
    obtain ⟨h1, h4, h3⟩ := hb
    exact ⟨h1, fun ⟨r, p, x, hx, hb⟩ => h4 ⟨r, p, x, hat _ _ _ _ hx, hb⟩, h3⟩
  refine ⟨⟨h.below, h.hB, h.hN, fun r p e cs hx => ?_, fun r p x r' p' x' hx hx' hb => h.inj r p x r' p' x' (hat _ _ _ _ hx) (hat _ _ _ _ hx') hb, fun r p x hx => h.frz r p x (hat _ _ _ _ hx)⟩, ev⟩
  obtain ⟨arr, ty, mk, h1, h2, h3, h4, h5⟩ := h.blk r p e cs (hat _ _ _ _ hx)
  exact ⟨arr, ty, mk, h1, h2, h3, h4, fun j c hc => (h5 j c hc).evo ev (Sized.refl _) (fun _ _ _ _ _ => rfl)⟩

def Store.kill (S : Store) (r : Nat) : Store :=
  match S[r]? with
  | some x => S.set r { x with live := false }
  | none => S

theorem Store.kill_length (S : Store) (r : Nat) : (S.kill r).length = S.length := by
  unfold Store.kill; split <;> simp

theorem Store.at_kill {any : Bool} {S : Store} {r r' : Nat} {p : List Nat} : Store.at any (S.kill r) r' p = if r' = r then none else Store.at any S r' p := by
  unfold Store.kill Store.at
  cases hx : S[r]? with
  | none =>
    by_cases e : r' = r
    · subst e; simp [hx]
    · simp [e]
  | some x =>
    have hlt := (List.getElem?_eq_some_iff.1 hx).1
    by_cases e : r' = r
    · subst e; simp [hlt]
    · rw [if_neg e, List.getElem?_set_ne (by omega)]

theorem Inv.kill {E : Env} {w0 : World} (h : Inv E w0) (r : Nat) : Inv { E with S := E.S.kill r } w0 ∧ Evo E { E with S := E.S.kill r } :=
  h.sub _ (Store.kill_length _ _) fun any r' p x hx => by
    rw [Store.at_kill] at hx
    split at hx
    · cases hx
    · exact hx

theorem World.heap_alloc_lt (w : World) (o : Obj) {b : Nat} (h : b < w.heap.size) : (w.alloc o).heap[b]? = w.heap[b]? := Below.heap_alloc w o b h

theorem Sized.alloc (w : World) (o : Obj) : Sized w (w.alloc o) := fun b arr ty mk h => ⟨arr, by rw [World.heap_alloc_lt _ _ (Array.getElem?_eq_some_iff.1 h).1]; exact h, rfl⟩

/-- No node of its own lies among these cells. -/
def NoOwn (cs : List T) : Prop := ∀ (j k n e : Nat) (cs' : List T), cs[j]? ≠ some (T.sl true k n e cs')

theorem cellsAt_noOwn {any : Bool} {e : Nat} {cs : List T} (h : NoOwn cs) {p : List Nat} {x : Nat × List T} (hx : cellsAt any e cs p = some x) : p = [] ∧ x = (e, cs) := by
  cases p with
  | nil => exact ⟨rfl, by simpa [cellsAt] using hx.symm⟩
  | cons c p =>
    unfold cellsAt at hx
    split at hx
    · rename_i k n e' cs' hc
      exact absurd hc (h c k n e' cs')
    · cases hx

/-- One block more. -/
structure Made (w w' : World) (arr : Array Value) (ty : TypeId) (mk : Nat × Nat) : Prop where
  os : w'.os = w.os
  tape : w'.tape = w.tape
  output : w'.output = w.output
  size : w'.heap.size = w.heap.size + 1
  old : ∀ b, b < w.heap.size → w'.heap[b]? = w.heap[b]?
  new : w'.heap[w.heap.size]? = some (.cells arr ty mk)

theorem Made.alloc (w : World) (arr : Array Value) (ty : TypeId) (mk : Nat × Nat) : Made w (w.alloc (.cells arr ty mk)) arr ty mk :=
  ⟨rfl, rfl, rfl, by simp, fun b hb => World.heap_alloc_lt _ _ hb, by show (w.heap.push _)[w.heap.size]? = _; simp⟩

theorem Made.sized {w w' : World} {arr : Array Value} {ty : TypeId} {mk : Nat × Nat} (h : Made w w' arr ty mk) : Sized w w' := fun b a1 _ _ hb => ⟨a1, (h.old b (Array.getElem?_eq_some_iff.1 hb).1).trans hb, rfl⟩

def Env.push (E : Env) (w' : World) (x : Root) : Env :=
  { E with w := w', S := E.S ++ [x], φ := fun r p => if r = E.S.length then E.w.heap.size else E.φ r p }

theorem Evo.push {E : Env} {w0 : World} (_h : Inv E w0) {w' : World} {arr : Array Value} {ty : TypeId} {mk : Nat × Nat} (hm : Made E.w w' arr ty mk) (x : Root) : Evo E (E.push w' x) := by
  refine ⟨rfl, rfl, rfl, by simp [Env.push], fun k b hb => ?_, fun r p e cs' hr hx => ?_⟩
  · obtain ⟨h1, h4, h3⟩ := hb
    refine ⟨⟨by show b < w'.heap.size; rw [hm.size]; omega, ?_, h3⟩, hm.old _ h1⟩
    rintro ⟨r, p, y, hy, hbb⟩
    simp only [Env.push] at hy hbb
    rw [Store.at_push] at hy
    split at hy
    · rename_i e; rw [if_pos e] at hbb; omega
    · rename_i e; rw [if_neg e] at hbb; exact h4 ⟨r, p, y, hy, hbb⟩
  · simp only [Env.push] at hx ⊢
    rw [Store.at_push, if_neg (by omega)] at hx
    rw [if_neg (by omega)]
    exact ⟨⟨cs', hx⟩, rfl, fun _ _ _ ha => hm.sized _ _ _ _ ha⟩

/-- A new block, a new root. -/
theorem Inv.push {E : Env} {w0 : World} (h : Inv E w0) {w' : World} {arr : Array Value} {ty : TypeId} {mk : Nat × Nat} (hm : Made E.w w' arr ty mk) (x : Root) (hn : NoOwn x.cs) (hlen : x.cs.length ≤ arr.size) (hmk : MkOk mk arr.size x.e)
    (hc : ∀ j c, x.cs[j]? = some c → CR (E.push w' x) E.S.length [] j c (arr.getD j undef)) :
    Inv (E.push w' x) w0 := by
  have hB : E.B ≤ E.w.heap.size := Nat.le_trans h.hB.1 h.below.size
  have ev := Evo.push h hm x
  refine ⟨h.below.trans ⟨hm.os, hm.tape, hm.output, by show _ ≤ w'.heap.size; rw [hm.size]; omega, fun k hk => hm.old k (Nat.lt_of_lt_of_le hk hB)⟩, h.hB, h.hN, fun r p e cs hx => ?_, fun r p y r' p' y' hy hy' hb => ?_, fun r p y hy hlt => ?_⟩
  · simp only [Env.push] at hx ⊢
    rw [Store.at_push] at hx
    split at hx
    · rename_i er
      subst er
      split at hx
      · obtain ⟨rfl, hx2⟩ := cellsAt_noOwn hn hx
        cases hx2
        refine ⟨arr, ty, mk, ?_, hlen, hmk, by simpa using hB, hc⟩
        simp only [if_true]
        exact hm.new
      · cases hx
    · rename_i er
      obtain ⟨a1, t1, m1, h1, h2, h3, h4, h5⟩ := h.blk r p e cs hx
      rw [if_neg er]
      exact ⟨a1, t1, m1, (hm.old _ (Array.getElem?_eq_some_iff.1 h1).1).trans h1, h2, h3, h4, fun j c hj => (h5 j c hj).evo ev hm.sized (fun _ _ _ _ _ => by simp [Env.push, er])⟩
  · simp only [Env.push] at hy hy' hb
    rw [Store.at_push] at hy hy'
    have key : ∀ r p y, (if r = E.S.length then (if x.live then cellsAt true x.e x.cs p else none) else Store.at true E.S r p) = some y → (r = E.S.length ∧ p = []) ∨ (r ≠ E.S.length ∧ E.S.at true r p = some y ∧ E.φ r p < E.w.heap.size) := by
      intro r p y hy
      split at hy
      · rename_i er
        split at hy
        · exact .inl ⟨er, (cellsAt_noOwn hn hy).1⟩
        · cases hy
      · rename_i er
        exact .inr ⟨er, hy, (Env.own_lt h ⟨r, p, y, hy, rfl⟩).2⟩
    rcases key r p y hy with ⟨e1, e2⟩ | ⟨e1, e2, e3⟩ <;> rcases key r' p' y' hy' with ⟨f1, f2⟩ | ⟨f1, f2, f3⟩
    · exact ⟨e1.trans f1.symm, e2.trans f2.symm⟩
    · rw [if_pos e1, if_neg f1] at hb; omega
    · rw [if_neg e1, if_pos f1] at hb; omega
    · rw [if_neg e1, if_neg f1] at hb; exact h.inj r p y r' p' y' e2 f2 hb
  · simp only [Env.push] at hy hlt ⊢
    rw [Store.at_push] at hy
    split at hy
    · rename_i er
      rw [if_pos er] at hlt
      have := Nat.le_trans h.hN h.below.size
      omega
    · rename_i er
      rw [if_neg er] at hlt ⊢
      exact h.frz r p y hy hlt

end Go.TL

/- Cells of a node are written. Lemmas on 'Inv' and 'Evo'. No conditions. -/
namespace Go.TL
set_option linter.unusedSimpArgs false
open Go.RowKit

def updAt (f : List T → List T) : List T → List Nat → List T
  | cs, [] => f cs
  | cs, c :: p => match cs[c]? with
    | some (.sl true k n e cs') => cs.set c (.sl true k n e (updAt f cs' p))
    | _ => cs

def Store.upd (S : Store) (r : Nat) (p : List Nat) (f : List T → List T) : Store :=
  match S[r]? with
  | some x => S.set r { x with cs := updAt f x.cs p }
  | none => S

theorem Store.upd_length (S : Store) (r : Nat) (p : List Nat) (f : List T → List T) : (S.upd r p f).length = S.length := by
  unfold Store.upd; split <;> simp

theorem cellsAt_append (any : Bool) (q : List Nat) : ∀ (p : List Nat) (e : Nat) (cs : List T), cellsAt any e cs (p ++ q) = (cellsAt any e cs p).bind fun x => cellsAt any x.1 x.2 q := by
  intro p
  induction p with
  | nil => intro e cs; rfl
  | cons c p ih =>
    intro e cs
    show (match cs[c]? with | some (.sl true k _ e' cs') => if any || k == 0 then cellsAt any e' cs' (p ++ q) else none | _ => none) =
      (match cs[c]? with | some (.sl true k _ e' cs') => if any || k == 0 then cellsAt any e' cs' p else none | _ => none).bind fun x => cellsAt any x.1 x.2 q
    split
    · split
      · exact ih _ _
      · rfl
    · rfl

theorem Store.at_append (any : Bool) (S : Store) (r : Nat) (p q : List Nat) : S.at any r (p ++ q) = (S.at any r p).bind fun x => cellsAt any x.1 x.2 q := by
  unfold Store.at
  cases hx : S[r]? with
  | none => rfl
  | some x =>
    simp only
    split
    · exact cellsAt_append any q p _ _
    · rfl

/-- The same cells but for what lies within cells of their own. -/
def Heads (a b : List T) : Prop := a.length = b.length ∧ ∀ (j : Nat) (x : T), b[j]? = some x → a[j]? = some x ∨ ∃ k n e cs cs', a[j]? = some (.sl true k n e cs) ∧ x = .sl true k n e cs' ∧ cs'.length = cs.length

theorem Heads.refl (a : List T) : Heads a a := ⟨rfl, fun _ _ h => .inl h⟩

theorem updAt_length {f : List T → List T} {cs : List T} {p : List Nat} {any : Bool} {e e0 : Nat} {cs0 : List T} (h : cellsAt any e cs p = some (e0, cs0)) (hf : (f cs0).length = cs0.length) :
    (updAt f cs p).length = cs.length := by
  cases p with
  | nil => simp only [cellsAt, Option.some.injEq, Prod.mk.injEq] at h; simp only [updAt]; rw [h.2]; exact hf
  | cons c p => unfold updAt; split <;> simp

/-- Where a node is behind an update: it is the node itself or below it, or it was there. -/
theorem cellsAt_updAt {f : List T → List T} {any : Bool} : ∀ (p : List Nat) (cs : List T) (e : Nat) (e0 : Nat) (cs0 : List T), cellsAt true e cs p = some (e0, cs0) → (f cs0).length = cs0.length →
    ∀ (q : List Nat) (e' : Nat) (cs'' : List T), cellsAt any e (updAt f cs p) q = some (e', cs'') →
      (∃ q2, q = p ++ q2 ∧ cellsAt any e0 (f cs0) q2 = some (e', cs'') ∧ (any = true ∨ cellsAt any e cs p = some (e0, cs0))) ∨
      (∃ cs', cellsAt any e cs q = some (e', cs') ∧ Heads cs' cs'' ∧ ∀ q2, q ≠ p ++ q2) := by
  intro p
  induction p with
  | nil =>
    intro cs e e0 cs0 h hf q e' cs'' hq
    simp only [cellsAt, Option.some.injEq, Prod.mk.injEq] at h
    obtain ⟨rfl, rfl⟩ := h
    exact .inl ⟨q, rfl, hq, .inr rfl⟩
  | cons c p ih =>
    intro cs e e0 cs0 h hf q e' cs'' hq
    unfold cellsAt at h
    split at h
    case h_2 => cases h
    rename_i k n e1 cs1 hc
    simp only [Bool.true_or, if_true] at h
    have hlt := (List.getElem?_eq_some_iff.1 hc).1
    have hu : updAt f cs (c :: p) = cs.set c (.sl true k n e1 (updAt f cs1 p)) := by
      show (match cs[c]? with | some (.sl true k n e cs') => cs.set c (.sl true k n e (updAt f cs' p)) | _ => cs) = _
      rw [hc]
    rw [hu] at hq
    cases q with
    | nil =>
      simp only [cellsAt, Option.some.injEq, Prod.mk.injEq] at hq
      obtain ⟨rfl, rfl⟩ := hq
      refine .inr ⟨cs, rfl, ⟨by simp, fun j x hj => ?_⟩, by simp⟩
      rw [List.getElem?_set] at hj
      split at hj
      · rename_i ej
        subst ej
        cases hj
        exact .inr ⟨k, n, e1, cs1, _, hc, rfl, updAt_length h hf⟩
      · exact .inl hj
    | cons d q =>
      unfold cellsAt at hq
      by_cases ed : d = c
      · subst ed
        rw [List.getElem?_set_self hlt] at hq
        simp only at hq
        split at hq
        case isFalse => cases hq
        rename_i hk
        rcases ih cs1 e1 e0 cs0 h hf q e' cs'' hq with ⟨q2, h1, h2, h3⟩ | ⟨cs', h1, h2, h3⟩
        · refine .inl ⟨q2, by rw [h1]; rfl, h2, ?_⟩
          rcases h3 with h3 | h3
          · exact .inl h3
          · refine .inr ?_
            unfold cellsAt
            rw [hc]
            simp only [hk, if_true, h3]
        · refine .inr ⟨cs', ?_, h2, fun q2 hq2 => h3 q2 (by simpa using hq2)⟩
          unfold cellsAt
          rw [hc]
          simp only [hk, if_true, h1]
      · rw [List.getElem?_set_ne (by omega)] at hq
        refine .inr ⟨cs'', ?_, Heads.refl _, fun q2 hq2 => ed (by simpa using (List.cons.inj hq2).1)⟩
        unfold cellsAt
        exact hq

theorem Store.at_upd {S : Store} {r : Nat} {p : List Nat} {f : List T → List T} {e0 : Nat} {cs0 : List T} (h : S.at true r p = some (e0, cs0)) (hf : (f cs0).length = cs0.length)
    {any : Bool} {r' : Nat} {q : List Nat} {e' : Nat} {cs'' : List T} (hq : (S.upd r p f).at any r' q = some (e', cs'')) :
    (r' = r ∧ ∃ q2, q = p ++ q2 ∧ cellsAt any e0 (f cs0) q2 = some (e', cs'') ∧ (any = true ∨ S.at any r p = some (e0, cs0))) ∨
    (∃ cs', S.at any r' q = some (e', cs') ∧ Heads cs' cs'' ∧ ∀ q2, ¬ (r' = r ∧ q = p ++ q2)) := by
  unfold Store.at at h hq ⊢
  unfold Store.upd at hq
  cases hx : S[r]? with
  | none => simp [hx] at h
  | some x =>
    simp only [hx] at h hq ⊢
    split at h
    case isFalse => cases h
    rename_i hl
    have hlt := (List.getElem?_eq_some_iff.1 hx).1
    by_cases er : r' = r
    · subst er
      rw [List.getElem?_set_self hlt] at hq
      simp only [hl, if_true] at hq
      simp only [hx, hl, if_true]
      rcases cellsAt_updAt p x.cs x.e e0 cs0 h hf q e' cs'' hq with h1 | ⟨cs', h1, h2, h3⟩
      · exact .inl ⟨by trivial, h1⟩
      · exact .inr ⟨cs', h1, h2, fun q2 hh => h3 q2 hh.2⟩
    · rw [List.getElem?_set_ne (by omega)] at hq
      exact .inr ⟨cs'', hq, Heads.refl _, fun q2 hh => er hh.1⟩

def Env.upd (E : Env) (w' : World) (r : Nat) (p : List Nat) (f : List T → List T) : Env := { E with w := w', S := E.S.upd r p f }

/-- One block written, its cells anew; no new nodes. -/
structure Wrote (w w' : World) (b : Nat) : Prop where
  os : w'.os = w.os
  tape : w'.tape = w.tape
  output : w'.output = w.output
  size : w'.heap.size = w.heap.size
  other : ∀ k, k ≠ b → w'.heap[k]? = w.heap[k]?
  same : ∀ (arr : Array Value) (ty : TypeId) (mk : Nat × Nat), w.heap[b]? = some (Obj.cells arr ty mk) → ∃ arr' : Array Value, w'.heap[b]? = some (Obj.cells arr' ty mk) ∧ arr'.size = arr.size

theorem Wrote.sized {w w' : World} {b : Nat} (h : Wrote w w' b) : Sized w w' := fun k arr ty mk hk => by
  by_cases e : k = b
  · subst e; exact h.same arr ty mk hk
  · exact ⟨arr, (h.other k e).trans hk, rfl⟩

theorem Wrote.trans {w w1 w2 : World} {b : Nat} (h : Wrote w w1 b) (k : Wrote w1 w2 b) : Wrote w w2 b :=
  ⟨k.os.trans h.os, k.tape.trans h.tape, k.output.trans h.output, k.size.trans h.size, fun i hi => (k.other i hi).trans (h.other i hi), fun arr ty mk hh => by
    obtain ⟨a1, h1, s1⟩ := h.same arr ty mk hh
    obtain ⟨a2, h2, s2⟩ := k.same a1 ty mk h1
    exact ⟨a2, h2, s2.trans s1⟩⟩

/-- Whatever is a node behind an update was one ahead of it. -/
theorem Store.at_upd_old {S : Store} {r : Nat} {p : List Nat} {f : List T → List T} {e0 : Nat} {cs0 : List T} (hn : S.at true r p = some (e0, cs0)) (hf : (f cs0).length = cs0.length)
    (hnew : ∀ any q2 x, q2 ≠ [] → cellsAt any e0 (f cs0) q2 = some x → cellsAt any e0 cs0 q2 = some x)
    {any : Bool} {r' : Nat} {q : List Nat} {e' : Nat} {cs'' : List T} (hq : (S.upd r p f).at any r' q = some (e', cs'')) :
    ∃ cs', S.at any r' q = some (e', cs') ∧ ((r' = r ∧ q = p ∧ cs' = cs0 ∧ cs'' = f cs0 ∧ e' = e0) ∨ (Heads cs' cs'' ∧ ¬ (r' = r ∧ q = p))) := by
  rcases Store.at_upd hn hf hq with ⟨rfl, q2, h1, h2, h3⟩ | ⟨cs', h1, h2, h3⟩
  · have hany : S.at any r' p = some (e0, cs0) := by
      rcases h3 with h3 | h3
      · subst h3; exact hn
      · exact h3
    by_cases e2 : q2 = []
    · subst e2
      simp only [cellsAt, Option.some.injEq, Prod.mk.injEq] at h2
      obtain ⟨rfl, rfl⟩ := h2
      rw [List.append_nil] at h1
      subst h1
      exact ⟨cs0, hany, .inl ⟨rfl, rfl, rfl, rfl, rfl⟩⟩
    · refine ⟨cs'', ?_, .inr ⟨Heads.refl _, fun hh => e2 (by have := h1.symm.trans hh.2; simpa using this)⟩⟩
      rw [h1, Store.at_append, hany]
      exact hnew any q2 _ e2 h2
  · exact ⟨cs', h1, .inr ⟨h2, fun hh => h3 [] ⟨hh.1, by simpa using hh.2⟩⟩⟩

theorem Evo.upd {E : Env} {w0 : World} (_h : Inv E w0) {r : Nat} {p : List Nat} {f : List T → List T} {e0 : Nat} {cs0 : List T} (hn : E.S.at true r p = some (e0, cs0)) (hf : (f cs0).length = cs0.length)
    (hnew : ∀ any q2 x, q2 ≠ [] → cellsAt any e0 (f cs0) q2 = some x → cellsAt any e0 cs0 q2 = some x) {w' : World} (hw : Wrote E.w w' (E.φ r p)) : Evo E (E.upd w' r p f) := by
  refine ⟨rfl, rfl, rfl, by simp [Env.upd, Store.upd_length], fun k b hb => ?_, fun r' q e cs' hr hx => ?_⟩
  · have hne : b ≠ E.φ r p := by
      rintro rfl
      exact hb.2.1 ⟨r, p, _, hn, rfl⟩
    obtain ⟨h1, h4, h3⟩ := hb
    refine ⟨⟨by show b < w'.heap.size; rw [hw.size]; exact h1, ?_, h3⟩, hw.other b hne⟩
    rintro ⟨r', q, x, hx, hb⟩
    obtain ⟨cs', h5, _⟩ := Store.at_upd_old hn hf hnew (e' := x.1) (cs'' := x.2) hx
    exact h4 ⟨r', q, _, h5, hb⟩
  · obtain ⟨cs1, h5, _⟩ := Store.at_upd_old hn hf hnew hx
    refine ⟨⟨cs1, h5⟩, rfl, fun arr ty mk ha => ?_⟩
    exact hw.sized _ _ _ _ ha

theorem Inv.upd {E : Env} {w0 : World} (h : Inv E w0) {r : Nat} {p : List Nat} {f : List T → List T} {e0 : Nat} {cs0 : List T} (hn : E.S.at true r p = some (e0, cs0)) (hf : (f cs0).length = cs0.length)
    (hnew : ∀ any q2 x, q2 ≠ [] → cellsAt any e0 (f cs0) q2 = some x → cellsAt any e0 cs0 q2 = some x) {w' : World} (hw : Wrote E.w w' (E.φ r p))
    (hc : ∀ (arr' : Array Value) ty mk, w'.heap[E.φ r p]? = some (.cells arr' ty mk) → ∀ j c, (f cs0)[j]? = some c → CR (E.upd w' r p f) r p j c (arr'.getD j undef)) : Inv (E.upd w' r p f) w0 := by
  have ev := Evo.upd h hn hf hnew hw
  refine ⟨⟨hw.os.trans h.below.os, hw.tape.trans h.below.tape, hw.output.trans h.below.output, by show _ ≤ w'.heap.size; rw [hw.size]; exact h.below.size, fun k hk => ?_⟩, h.hB, h.hN, fun r' q e cs'' hx => ?_, fun r1 p1 x1 r2 p2 x2 h1 h2 hb => ?_, fun r1 p1 x1 h1 hlt => ?_⟩
  · have := (Env.own_lt h ⟨r, p, _, hn, rfl⟩).1
    have hB : E.B ≤ E.φ r p := this
    exact (hw.other k (by have : k < E.B := hk; omega)).trans (h.below.block k hk)
  · obtain ⟨cs', h5, h6⟩ := Store.at_upd_old hn hf hnew hx
    obtain ⟨arr, ty, mk, a1, a2, a3, a4, a5⟩ := h.blk r' q e cs' h5
    obtain ⟨arr', b1, b2⟩ := hw.sized _ _ _ _ a1
    rcases h6 with ⟨rfl, rfl, rfl, rfl, rfl⟩ | ⟨h6, h7⟩
    · exact ⟨arr', ty, mk, b1, by omega, by rw [b2]; exact a3, a4, hc arr' ty mk b1⟩
    · have hne : E.φ r' q ≠ E.φ r p := fun hh => h7 (h.inj _ _ _ _ _ _ h5 hn hh)
      refine ⟨arr, ty, mk, (hw.other _ hne).trans a1, by have := h6.1; omega, a3, a4, fun j c hj => ?_⟩
      rcases h6.2 j c hj with h8 | ⟨k, n, e1, c1, c2, h8, rfl, h9⟩
      · exact (a5 j c h8).evo ev hw.sized (fun _ _ _ _ _ => rfl)
      · have h10 := a5 j _ h8
        cases h10 with
        | own hn' hv => exact .own (h9.trans hn') (hv.evo (hw.sized _))
  · obtain ⟨c1, h5, _⟩ := Store.at_upd_old hn hf hnew (e' := x1.1) (cs'' := x1.2) h1
    obtain ⟨c2, h6, _⟩ := Store.at_upd_old hn hf hnew (e' := x2.1) (cs'' := x2.2) h2
    exact h.inj _ _ _ _ _ _ h5 h6 hb
  · obtain ⟨c1, h5, _⟩ := Store.at_upd_old hn hf hnew (e' := x1.1) (cs'' := x1.2) h1
    exact h.frz _ _ _ h5 hlt

end Go.TL

/- The operations on trees that touch no memory, and that the model's operations come to just them. No conditions. -/
namespace Go.TL
set_option linter.unusedSimpArgs false
open Go.RowKit

/-- A computation that touches no world. -/
def pureRun {α : Type} (P : Program) : Sem α → Option α
  | .pure a => some a
  | .program k => pureRun P (k P)
  | .mark _ k => pureRun P k
  | _ => none

theorem pureRun_run {α : Type} {P : Program} {m : Sem α} {x : α} (h : pureRun P m = some x) (w : World) : m.run P w = .ok x w := by
  induction m with
  | pure a => simp only [pureRun, Option.some.injEq] at h; subst h; rfl
  | program k ih => exact ih P h
  | mark _ k ih => exact ih h
  | _ => simp [pureRun] at h

theorem pureRun_bind' {α β : Type} (P : Program) (m : Sem α) (f : α → Sem β) : pureRun P (m.bind f) = (pureRun P m).bind fun x => pureRun P (f x) := by
  induction m with
  | pure a => rfl
  | program k ih => exact ih P
  | mark _ k ih => exact ih
  | _ => rfl

@[simp] theorem pureRun_bind {α β : Type} (P : Program) (m : Sem α) (f : α → Sem β) : pureRun P (m >>= f) = (pureRun P m).bind fun x => pureRun P (f x) := pureRun_bind' P m f
@[simp] theorem pureRun_map {α β : Type} (P : Program) (m : Sem α) (f : α → β) : pureRun P (f <$> m) = (pureRun P m).map f := by
  show pureRun P (m.bind fun a => Sem.pure (f a)) = _
  rw [pureRun_bind']
  cases pureRun P m <;> rfl
@[simp] theorem pureRun_pure {α : Type} (P : Program) (x : α) : pureRun P (pure x : Sem α) = some x := rfl
@[simp] theorem pureRun_pure' {α : Type} (P : Program) (x : α) : pureRun P (Sem.pure x : Sem α) = some x := rfl
@[simp] theorem pureRun_halt {α : Type} (P : Program) (x : Halt) : pureRun P (Sem.halt x : Sem α) = none := rfl
@[simp] theorem pureRun_program (P : Program) : pureRun P program = some P := rfl
@[simp] theorem pureRun_stuck {α : Type} (P : Program) (x : String) : pureRun P (stuck x : Sem α) = none := rfl
@[simp] theorem pureRun_unsupported {α : Type} (P : Program) (x : Unsupported) : pureRun P (unsupported x : Sem α) = none := rfl
@[simp] theorem pureRun_ite {α : Type} (P : Program) (c : Prop) [Decidable c] (x y : Sem α) : pureRun P (if c then x else y) = if c then pureRun P x else pureRun P y := by split <;> rfl

mutual
def toV : T → Option Value
  | .v x => some x
  | .agg ts => (toVs ts).map fun l => .agg l.toArray
  | _ => none
def toVs : List T → Option (List Value)
  | [] => some []
  | t :: ts => (toV t).bind fun x => (toVs ts).map fun l => x :: l
end

def ofV : Value → T
  | .agg cs => .agg (cs.toList.map .v)
  | x => .v x

theorem TR.ofV (E : Env) (x : Value) : TR E (ofV x) x := by
  unfold TL.ofV
  split
  · refine .agg (by simp) fun i t ht => ?_
    rw [List.getElem?_map] at ht
    obtain ⟨y, hy, rfl⟩ := Option.map_eq_some_iff.1 ht
    rw [Array.getElem?_toList] at hy
    rw [Array.getD_eq_getD_getElem?, hy]
    exact .v y
  · exact .v x

mutual
theorem TR.toV {E : Env} : ∀ (t : T) (x y : Value), TR E t x → toV t = some y → x = y
  | .v z, x, y, h, hy => by
    simp only [TL.toV, Option.some.injEq] at hy; subst hy; cases h; rfl
  | .agg ts, x, y, h, hy => by
    simp only [TL.toV] at hy
    obtain ⟨l, hl, rfl⟩ := Option.map_eq_some_iff.1 hy
    cases h with
    | agg hs h =>
      rename_i vs
      have := TR.toVs ts vs.toList l (by simpa using hs) (fun i t ht => by have := h i t ht; rw [Array.getD_eq_getD_getElem?] at this; rw [List.getD_eq_getElem?_getD, Array.getElem?_toList]; exact this) hl
      rw [← this]
  | .sl _ _ _ _ _, _, _, _, hy => by simp [TL.toV] at hy
  | .ref _ _ _ _, _, _, _, hy => by simp [TL.toV] at hy
  | .ptr _ _ _, _, _, _, hy => by simp [TL.toV] at hy
  | .pz _ _ _, _, _, _, hy => by simp [TL.toV] at hy
  | .tup _, _, _, _, hy => by simp [TL.toV] at hy
  | .clo _ _, _, _, _, hy => by simp [TL.toV] at hy
  | .dead, _, _, _, hy => by simp [TL.toV] at hy
theorem TR.toVs {E : Env} : ∀ (ts : List T) (vs l : List Value), vs.length = ts.length → (∀ i t, ts[i]? = some t → TR E t (vs.getD i undef)) → toVs ts = some l → vs = l
  | [], vs, l, hs, _, hl => by
    simp only [TL.toVs, Option.some.injEq] at hl; subst hl; simpa using hs
  | t :: ts, vs, l, hs, h, hl => by
    simp only [TL.toVs] at hl
    obtain ⟨x, hx, hl⟩ := Option.bind_eq_some_iff.1 hl
    obtain ⟨l', hl', rfl⟩ := Option.map_eq_some_iff.1 hl
    cases vs with
    | nil => simp at hs
    | cons u us =>
      have h0 := h 0 t rfl
      have e1 := TR.toV t u x (by simpa using h0) hx
      have e2 := TR.toVs ts us l' (by simpa using hs) (fun i t ht => by simpa using h (i + 1) t (by simpa using ht)) hl'
      rw [e1, e2]
end

def ev (fr : Nat → T) : Operand → T
  | .tmp t => fr t
  | .const v => .v v
  | .global g => .v (.pointer (some ⟨g, 0, none⟩))
  | .func f => .v (.func (.func f) #[] #[])

structure FR (E : Env) (n : Nat) (fr : Nat → T) (a : Act) : Prop where
  size : a.tmps.size = n
  tr : ∀ t, TR E (fr t) (a.tmps.getD t undef)

theorem FR.ev {E : Env} {n : Nat} {fr : Nat → T} {a : Act} (h : FR E n fr a) (x : Operand) : TR E (ev fr x) (a.eval x) := by
  cases x with
  | tmp t => exact h.tr t
  | const v => exact .v v
  | global g => exact .v _
  | func f => exact .v _

theorem FR.evo {E E' : Env} {n : Nat} {fr : Nat → T} {a : Act} (h : FR E n fr a) (k : Evo E E') : FR E' n fr a := ⟨h.size, fun t => (h.tr t).evo k⟩

def upd (fr : Nat → T) (d : Nat) (t : T) : Nat → T := fun i => if i = d then t else fr i

def put (fr : Nat → T) : Option Nat → T → Nat → T
  | some d, t => upd fr d t
  | none, _ => fr

def okDst (n : Nat) : Option Nat → Bool
  | some d => d < n
  | none => true

theorem FR.put {E : Env} {n : Nat} {fr : Nat → T} {a : Act} (h : FR E n fr a) {d : Option Nat} (hd : okDst n d = true) {t : T} {v : Value} (ht : TR E t v) : FR E n (put fr d t) (a.put d v) := by
  cases d with
  | none => exact h
  | some d =>
    have hd' : d < n := by simpa [okDst] using hd
    refine ⟨by simp [Act.put, h.size], fun i => ?_⟩
    simp only [TL.put, upd, Act.put]
    by_cases e : i = d
    · subst e
      rw [if_pos rfl, Array.getD_eq_getD_getElem?, Array.getElem?_setIfInBounds_self_of_lt (by rw [h.size]; exact hd')]
      exact ht
    · rw [if_neg e, Array.getD_eq_getD_getElem?, Array.getElem?_setIfInBounds_ne (Ne.symm e), ← Array.getD_eq_getD_getElem?]
      exact h.tr i

theorem FR.defers {E : Env} {n : Nat} {fr : Nat → T} {a : Act} (h : FR E n fr a) (d : List Deferred) : FR E n fr { a with defers := d } := ⟨h.size, h.tr⟩

/-- What an operation that gives a value comes to: the value, the roots behind it. -/
def Gives (P : Program) (o : Oper) (a : Act) (E : Env) (w0 : World) (t : T) (S' : Store) : Prop :=
  ∃ v E', (execOp a.eval o).run P E.w = .ok (.value v) E'.w ∧ E'.S = S' ∧ Inv E' w0 ∧ Evo E E' ∧ TR E' t v

theorem Gives.pure {P : Program} {o : Oper} {a : Act} {E : Env} {w0 : World} (h : Inv E w0) {v : Value} (hr : (execOp a.eval o).run P E.w = .ok (.value v) E.w) {t : T} (ht : TR E t v) : Gives P o a E w0 t E.S :=
  ⟨v, E, hr, rfl, h, Evo.refl E, ht⟩

/-- Operations on plain values: just what the model says. -/
def binT (P : Program) (op : BinOp) (t : TypeId) (xo yo : Operand) (x y : T) : Option T :=
  match toV x, toV y with
  | some a, some b => (pureRun P (do eqGuard op t xo yo a b; binOp op t a b)).map ofV
  | _, _ => none

theorem binT_gives {P : Program} {o : Oper} {op : BinOp} {t ty : TypeId} {xo yo : Operand} (ho : o.op = .binOp op t xo yo ty) {a : Act} {E : Env} {w0 : World} {n : Nat} {fr : Nat → T}
    (h : Inv E w0) (hf : FR E n fr a) {r : T} (hr : binT P op t xo yo (ev fr xo) (ev fr yo) = some r) : Gives P o a E w0 r E.S := by
  unfold binT at hr
  split at hr
  case h_2 => cases hr
  rename_i x y hx hy
  have ex := (hf.ev xo).toV _ _ _ hx
  have ey := (hf.ev yo).toV _ _ _ hy
  obtain ⟨v, hv, rfl⟩ := Option.map_eq_some_iff.1 hr
  refine Gives.pure h (v := v) ?_ (TR.ofV E v)
  simp only [execOp, ho]
  rw [ex, ey]
  have := pureRun_run hv E.w
  simp only [Sem.run_bind] at this ⊢
  rw [this]; rfl

def unT (P : Program) (op : UnOp) (x : T) : Option T :=
  match toV x with
  | some a => (pureRun P (Op.unary op a)).map ofV
  | none => none

theorem unT_gives {P : Program} {o : Oper} {op : UnOp} {t : TypeId} {xo : Operand} (ho : o.op = .unOp op t xo) {a : Act} {E : Env} {w0 : World} {n : Nat} {fr : Nat → T}
    (h : Inv E w0) (hf : FR E n fr a) {r : T} (hr : unT P op (ev fr xo) = some r) : Gives P o a E w0 r E.S := by
  unfold unT at hr
  split at hr
  case h_2 => cases hr
  rename_i x hx
  have ex := (hf.ev xo).toV _ _ _ hx
  obtain ⟨v, hv, rfl⟩ := Option.map_eq_some_iff.1 hr
  refine Gives.pure h (v := v) ?_ (TR.ofV E v)
  simp only [execOp, ho, Sem.run_bind]
  rw [ex, pureRun_run hv E.w]; rfl

theorem move_gives {P : Program} {o : Oper} {xo : Operand} (ho : o.op = .move xo ∨ o.op = .assign xo) {a : Act} {E : Env} {w0 : World} {n : Nat} {fr : Nat → T}
    (h : Inv E w0) (hf : FR E n fr a) : Gives P o a E w0 (ev fr xo) E.S := by
  refine Gives.pure h (v := a.eval xo) ?_ (hf.ev xo)
  rcases ho with ho | ho <;> simp only [execOp, ho] <;> rfl

def pickT (c x y : T) : Option T :=
  match c with
  | .v (.bool b) => some (if b then x else y)
  | _ => none

theorem pick_gives {P : Program} {o : Oper} {co xo yo : Operand} (ho : o.op = .pick co xo yo) {a : Act} {E : Env} {w0 : World} {n : Nat} {fr : Nat → T}
    (h : Inv E w0) (hf : FR E n fr a) {r : T} (hr : pickT (ev fr co) (ev fr xo) (ev fr yo) = some r) : Gives P o a E w0 r E.S := by
  unfold pickT at hr
  split at hr
  case h_2 => cases hr
  rename_i b hc
  cases hr
  have hb := hf.ev co
  rw [hc] at hb
  have hev := hb.toV _ _ (.bool b) rfl
  refine Gives.pure h (v := if b then a.eval xo else a.eval yo) ?_ ?_
  · simp only [execOp, ho]; rw [hev]; simp [asBool]
  · cases b
    · exact hf.ev yo
    · exact hf.ev xo

/-- A part of a tuple. -/
def extractT (x : T) (i : Nat) : Option T :=
  match x with
  | .tup ts => ts[i]?
  | _ => none

theorem extract_gives {P : Program} {o : Oper} {xo : Operand} {i : Nat} (ho : o.op = .extract xo i) {a : Act} {E : Env} {w0 : World} {n : Nat} {fr : Nat → T}
    (h : Inv E w0) (hf : FR E n fr a) {r : T} (hr : extractT (ev fr xo) i = some r) : Gives P o a E w0 r E.S := by
  unfold extractT at hr
  split at hr
  case h_2 => cases hr
  rename_i ts hts
  have hx := hf.ev xo
  rw [hts] at hx
  generalize hv : a.eval xo = val at hx
  cases hx with
  | tup hs hh =>
    rename_i vs
    have hi : i < vs.size := by rw [hs]; exact (List.getElem?_eq_some_iff.1 hr).1
    refine Gives.pure h (v := vs.getD i undef) ?_ (hh i r hr)
    simp only [execOp, ho, hv, Instr.extract]
    rw [Array.getD_eq_getD_getElem?, Array.getElem?_eq_getElem hi]
    rfl

end Go.TL

/- Places, lengths, cuts and loads on trees, and that the model's operations come to just them. No conditions. -/
namespace Go.TL
set_option linter.unusedSimpArgs false
open Go.RowKit

def szT (P : Program) (t : TypeId) : Option Nat := (P.info? t).map (·.size)
def bytesT (P : Program) (t : TypeId) : Option Nat := (P.info? t).map (·.bytes)
def elemT (P : Program) (t : TypeId) : Option TypeId :=
  match P.underlying t with
  | some (.slice e) => some e
  | _ => none
/-- An array's length and element type. -/
def arrT (P : Program) (t : TypeId) : Option (Nat × TypeId) :=
  match P.underlying t with
  | some (.array n e) => some (n, e)
  | _ => none
/-- A field's place and size. -/
def fldT (P : Program) (s : TypeId) (f : Nat) : Option (Nat × Nat × TypeId) :=
  match P.underlying s with
  | some (.struct fs) => (fs[f]?).bind fun x => (szT P x.type).map fun n => (x.offset, n, x.type)
  | _ => none
/-- Is it a struct or an array? -/
def aggT (P : Program) (t : TypeId) : Option Bool :=
  match P.underlying t with
  | some (.struct _) => some true
  | some (.array _ _) => some true
  | some _ => some false
  | none => none

theorem szT_run {P : Program} {t : TypeId} {n : Nat} (h : szT P t = some n) (w : World) : (sizeOf t).run P w = .ok n w := by
  obtain ⟨i, hi, rfl⟩ := Option.map_eq_some_iff.1 h
  simp [sizeOf, typeInfo, hi]

theorem elemT_run {P : Program} {t e : TypeId} (h : elemT P t = some e) : P.underlying t = some (.slice e) := by
  unfold elemT at h
  split at h
  · rename_i x hx; cases h; exact hx
  · cases h

theorem arrT_run {P : Program} {t e : TypeId} {n : Nat} (h : arrT P t = some (n, e)) : P.underlying t = some (.array n e) := by
  unfold arrT at h
  split at h
  · rename_i x hx; cases h; exact hx
  · cases h

theorem aggT_run {P : Program} {t : TypeId} {b : Bool} (h : aggT P t = some b) (w : World) : (isAgg t).run P w = .ok b w := by
  unfold aggT at h
  split at h
  · rename_i x hx; cases h; simp [isAgg, run_underlying hx]
  · rename_i x y hx; cases h; simp [isAgg, run_underlying hx]
  · rename_i x h1 h2 hx
    cases h
    simp only [isAgg, Sem.run_bind, run_underlying hx, Result.andThen_ok]
    rfl
  · cases h

/-! ### fieldAddr -/
def fieldAddrT (P : Program) (S : Store) (s : TypeId) (x : T) (f : Nat) : Option T :=
  match fldT P s f with
  | some (o, n, _) => if n = 0 then none else match x with
    | .ptr r p off => if (S.at false r p).isSome then some (.ptr r p (off + o)) else none
    | .pz k cs off => some (.pz k cs (off + o))
    | _ => none
  | none => none

theorem addr_add (b o n : Nat) : (⟨b, o, none⟩ : Addr).add n = ⟨b, o + n, none⟩ := Addr.add_lit b o n

theorem run_fieldAt {P : Program} {s : TypeId} {f : Nat} {o n : Nat} {ty : TypeId} (h : fldT P s f = some (o, n, ty)) (hn : n ≠ 0) (b off : Nat) (w : World) :
    (Instr.fieldAt s (.pointer (some ⟨b, off, none⟩)) f).run P w = .ok (.pointer (some ⟨b, off + o, none⟩)) w := by
  unfold fldT at h
  split at h
  case h_2 => cases h
  rename_i fs hs
  obtain ⟨x, hx, h⟩ := Option.bind_eq_some_iff.1 h
  obtain ⟨m, hm, h⟩ := Option.map_eq_some_iff.1 h
  simp only [Prod.mk.injEq] at h
  obtain ⟨rfl, rfl, rfl⟩ := h
  have h0 : (m = 0) = False := by simpa using hn
  simp [Instr.fieldAt, run_underlying hs, hx, Instr.sureAddr, fieldPlace, szT_run hm, h0, addr_add]

theorem fieldAddr_gives {P : Program} {o : Oper} {s : TypeId} {xo : Operand} {f : Nat} (ho : o.op = .fieldAddr s xo f) {a : Act} {E : Env} {w0 : World} {n : Nat} {fr : Nat → T}
    (h : Inv E w0) (hf : FR E n fr a) {r : T} (hr : fieldAddrT P E.S s (ev fr xo) f = some r) : Gives P o a E w0 r E.S := by
  unfold fieldAddrT at hr
  split at hr
  case h_2 => cases hr
  rename_i o1 n1 ty hfl
  split at hr
  · cases hr
  rename_i hn
  have hx := hf.ev xo
  split at hr
  · rename_i r' p' off' he
    split at hr
    case isFalse => cases hr
    rename_i hsome
    cases hr
    rw [he] at hx
    obtain ⟨y, hy⟩ := Option.isSome_iff_exists.1 hsome
    generalize hval : a.eval xo = val at hx
    cases hx with
    | ptr hr hh =>
      have := hh y hy
      refine Gives.pure h (v := .pointer (some ⟨E.φ r' p', off' + o1, none⟩)) ?_ (.ptr hr fun x hx => rfl)
      simp only [execOp, ho, hval, this, Sem.run_bind, run_fieldAt hfl hn]; rfl
  · rename_i k cs off' he
    cases hr
    rw [he] at hx
    generalize hval : a.eval xo = val at hx
    cases hx with
    | pz g hok hcell hrec =>
      rename_i b o2
      refine Gives.pure h (v := .pointer (some ⟨b, o2 + (off' + o1), none⟩)) ?_ (.pz g hok hcell hrec)
      simp only [execOp, ho, hval, Sem.run_bind, run_fieldAt hfl hn, Nat.add_assoc]; rfl
  · cases hr

/-! ### indexAddr -/
def indexAddrT (P : Program) (S : Store) (t : TypeId) (x i : T) : Option T :=
  match i with
  | .v (.int _ i) => match elemT P t with
    | some e => match szT P e with
      | some sz => match x with
        | .ref r p off n => if 0 ≤ i ∧ i < n then (if (S.at false r p).isSome then some (.ptr r p (off + i.toNat * sz)) else none) else none
        | .sl false k n e' cs => if 0 ≤ i ∧ i < n then (if e' = sz ∧ 0 < sz then some (.pz k ((cs.drop (i.toNat * sz)).take sz) 0) else none) else none
        | _ => none
      | none => none
    | none => match arrT P t with
      | some (n, e) => match szT P e with
        | some sz => match x with
          | .ptr r p off => if 0 ≤ i ∧ i < n then (if (S.at false r p).isSome then some (.ptr r p (off + i.toNat * sz)) else none) else none
          | .pz k cs off => if 0 ≤ i ∧ i < n then some (.pz k cs (off + i.toNat * sz)) else none
          | _ => none
        | none => none
      | none => none
  | _ => none

theorem run_indexAt {P : Program} {t e : TypeId} {sz : Nat} (he : elemT P t = some e) (hs : szT P e = some sz) (b off n cap : Nat) (k : IntKind) (i : Int) (h0 : 0 ≤ i) (h1 : i < n) (w : World) :
    (Instr.indexAt t (.slice (some ⟨b, off, none⟩) n cap) (.int k i)).run P w = .ok (.pointer (some ⟨b, off + i.toNat * sz, none⟩)) w := by
  have hu := elemT_run he
  simp [Instr.indexAt, run_underlying hu, asIntOf, h0, h1, szT_run hs, addr_add]

theorem run_indexAt_arr {P : Program} {t e : TypeId} {sz n : Nat} (he : arrT P t = some (n, e)) (hs : szT P e = some sz) (b off : Nat) (k : IntKind) (i : Int) (h0 : 0 ≤ i) (h1 : i < n) (w : World) :
    (Instr.indexAt t (.pointer (some ⟨b, off, none⟩)) (.int k i)).run P w = .ok (.pointer (some ⟨b, off + i.toNat * sz, none⟩)) w := by
  have hu := arrT_run he
  simp [Instr.indexAt, run_underlying hu, asIntOf, h0, h1, szT_run hs, addr_add, Instr.sureAddr]

theorem indexAddr_gives {P : Program} {o : Oper} {t : TypeId} {xo io : Operand} (ho : o.op = .indexAddr t xo io) {a : Act} {E : Env} {w0 : World} {n : Nat} {fr : Nat → T}
    (h : Inv E w0) (hf : FR E n fr a) {r : T} (hr : indexAddrT P E.S t (ev fr xo) (ev fr io) = some r) : Gives P o a E w0 r E.S := by
  unfold indexAddrT at hr
  split at hr
  case h_2 => cases hr
  rename_i ik i hi
  have hiv := (hf.ev io).toV _ _ (.int ik i) (by rw [hi]; rfl)
  have hx := hf.ev xo
  split at hr
  · rename_i e he
    split at hr
    case h_2 => cases hr
    rename_i sz hs
    split at hr
    · rename_i r' p' off' n' hxo
      split at hr
      case isFalse => cases hr
      rename_i hb
      split at hr
      case isFalse => cases hr
      rename_i hsome
      cases hr
      obtain ⟨⟨e1, cs1⟩, hy⟩ := Option.isSome_iff_exists.1 hsome
      rw [hxo] at hx
      generalize hval : a.eval xo = val at hx
      cases hx with
      | ref hr hh =>
        obtain ⟨cap, arr, ty, mk, h1, h2, h3, rfl⟩ := hh _ _ hy
        refine Gives.pure h (v := .pointer (some ⟨E.φ r' p', off' + i.toNat * sz, none⟩)) ?_ (.ptr hr fun x hx => rfl)
        simp only [execOp, ho, hval, hiv, Sem.run_bind, run_indexAt he hs _ _ _ _ _ _ hb.1 hb.2]; rfl
    · rename_i k n' e' cs hxo
      split at hr
      case isFalse => cases hr
      rename_i hb
      split at hr
      case isFalse => cases hr
      rename_i hsz
      obtain ⟨rfl, hpos⟩ := hsz
      cases hr
      rw [hxo] at hx
      generalize hval : a.eval xo = val at hx
      cases hx with
      | sl hfz =>
        cases hfz with
        | sl b off f hn hc ha hcell hrec =>
          have hne : cs ≠ [] := by
            intro hnil
            subst hnil
            have : 0 < n' * e' := Nat.mul_pos (by omega) hpos
            simp at hn
            omega
          rcases ha with ha | ⟨rfl, hok⟩
          · exact absurd ha hne
          · have hat : ∀ (j : Nat) (c : T), ((cs.drop (i.toNat * e')).take e')[j]? = some c → cs[i.toNat * e' + j]? = some c := by
              intro j c hj
              rw [List.getElem?_take] at hj
              split at hj
              · rw [List.getElem?_drop] at hj; exact hj
              · cases hj
            have := TR.pz (E := E) (k := k) (cs := (cs.drop (i.toNat * e')).take e') (off := 0) (b := b) (o := off + i.toNat * e') (fun j => f (i.toNat * e' + j)) hok
              (fun j c hj => by rw [Nat.add_assoc]; exact hcell _ c (hat j c hj)) (fun j c hj => hrec _ c (hat j c hj))
            refine Gives.pure h (v := .pointer (some ⟨b, off + i.toNat * e', none⟩)) ?_ this
            simp only [execOp, ho, hval, hiv, Sem.run_bind, run_indexAt he hs _ _ _ _ _ _ hb.1 hb.2]; rfl
    · cases hr
  · split at hr
    case h_2 => cases hr
    rename_i n' e harr
    split at hr
    case h_2 => cases hr
    rename_i sz hs
    split at hr
    · rename_i r' p' off' hxo
      split at hr
      case isFalse => cases hr
      rename_i hb
      split at hr
      case isFalse => cases hr
      rename_i hsome
      cases hr
      obtain ⟨y, hy⟩ := Option.isSome_iff_exists.1 hsome
      rw [hxo] at hx
      generalize hval : a.eval xo = val at hx
      cases hx with
      | ptr hr hh =>
        have := hh y hy
        subst this
        refine Gives.pure h (v := .pointer (some ⟨E.φ r' p', off' + i.toNat * sz, none⟩)) ?_ (.ptr hr fun x hx => rfl)
        simp only [execOp, ho, hval, hiv, Sem.run_bind, run_indexAt_arr harr hs _ _ _ _ hb.1 hb.2]; rfl
    · rename_i k cs off' hxo
      split at hr
      case isFalse => cases hr
      rename_i hb
      cases hr
      rw [hxo] at hx
      generalize hval : a.eval xo = val at hx
      cases hx with
      | pz g hok hcell hrec =>
        rename_i b o2
        refine Gives.pure h (v := .pointer (some ⟨b, o2 + (off' + i.toNat * sz), none⟩)) ?_ (.pz g hok hcell hrec)
        simp only [execOp, ho, hval, hiv, Sem.run_bind, run_indexAt_arr harr hs _ _ _ _ hb.1 hb.2, Nat.add_assoc]; rfl
    · cases hr

/-! ### load -/
def loadCell (r : Nat) (p : List Nat) (j : Nat) : T → Option T
  | .v x => some (.v x)
  | .sl false k n e cs => some (.sl false k n e cs)
  | .sl true k n _ _ => if k = 0 then some (.ref r (p ++ [j]) 0 n) else none
  | .ref r' p' off n => some (.ref r' p' off n)
  | _ => none

def loadZ (k : Nat) : T → Option T
  | .v x => some (.v x)
  | .sl _ _ n e cs => some (.sl false k n e cs)
  | _ => none

def loadN (g : Nat → T → Option T) (cs : List T) : Nat → Nat → Option (List T)
  | _, 0 => some []
  | j, m + 1 => match cs[j]? with
    | some c => match g j c with
      | some t => (loadN g cs (j + 1) m).map (t :: ·)
      | none => none
    | none => none

theorem loadN_length {g : Nat → T → Option T} {cs : List T} : ∀ (m j : Nat) (l : List T), loadN g cs j m = some l → l.length = m := by
  intro m
  induction m with
  | zero => intro j l h; simp only [loadN, Option.some.injEq] at h; subst h; rfl
  | succ m ih =>
    intro j l h
    unfold loadN at h
    split at h
    · split at h
      · obtain ⟨l', hl, rfl⟩ := Option.map_eq_some_iff.1 h
        simp [ih _ _ hl]
      · cases h
    · cases h

theorem loadN_at {g : Nat → T → Option T} {cs : List T} : ∀ (m j : Nat) (l : List T), loadN g cs j m = some l → ∀ i t, l[i]? = some t → ∃ c, cs[j + i]? = some c ∧ g (j + i) c = some t := by
  intro m
  induction m with
  | zero => intro j l h i t ht; simp only [loadN, Option.some.injEq] at h; subst h; simp at ht
  | succ m ih =>
    intro j l h i t ht
    unfold loadN at h
    split at h
    case h_2 => cases h
    rename_i c hc
    split at h
    case h_2 => cases h
    rename_i u hu
    obtain ⟨l', hl, rfl⟩ := Option.map_eq_some_iff.1 h
    cases i with
    | zero => simp only [List.getElem?_cons_zero, Option.some.injEq] at ht; subst ht; exact ⟨c, hc, hu⟩
    | succ i =>
      obtain ⟨c', h1, h2⟩ := ih (j + 1) l' hl i t (by simpa using ht)
      exact ⟨c', by rw [← h1]; congr 1; omega, by rw [← h2]; congr 1; omega⟩

def loadT (P : Program) (S : Store) (t : TypeId) (x : T) : Option T :=
  match aggT P t with
  | some agg => match szT P t with
    | some sz => match x with
      | .ptr r p off => match S.at false r p with
        | some (_, cs) => if agg then (loadN (loadCell r p) cs off sz).map .agg else (loadN (loadCell r p) cs off 1).bind (·[0]?)
        | none => none
      | .pz k cs off => if agg then (loadN (fun _ => loadZ k) cs off sz).map .agg else (loadN (fun _ => loadZ k) cs off 1).bind (·[0]?)
      | _ => none
    | none => none
  | none => none

theorem loadCell_tr {E : Env} {w0 : World} (_h : Inv E w0) {r : Nat} {p : List Nat} {e : Nat} {cs : List T} (hn : E.S.at false r p = some (e, cs)) {j : Nat} {c : T} (hc : cs[j]? = some c) {val : Value}
    (hcr : CR E r p j c val) {t : T} (ht : loadCell r p j c = some t) : TR E t val := by
  cases hcr with
  | v _ hx => simp only [loadCell, Option.some.injEq] at ht; subst ht; exact .v _
  | fz hf => simp only [loadCell, Option.some.injEq] at ht; subst ht; exact .sl hf
  | own hl hv =>
    simp only [loadCell] at ht
    split at ht
    · rename_i hk
      subst hk
      cases ht
      refine .ref (Store.at_lt hn) fun e' cs' he => ?_
      rw [Store.at_append, hn] at he
      simp only [Option.bind_some, cellsAt, hc, Bool.false_or, beq_self_eq_true, if_true, Option.some.injEq, Prod.mk.injEq] at he
      rw [← he.1]
      exact hv
    · cases ht
  | ref hv ht' => simp only [loadCell, Option.some.injEq] at ht; subst ht; exact ht'
  | dead val hv => simp [loadCell] at ht

theorem loadZ_tr {E : Env} {k : Nat} {c : T} {val : Value} (h : FzR E.w (E.okz k) c val) {t : T} (ht : loadZ k c = some t) : TR E t val := by
  cases h with
  | v _ hx => simp only [loadZ, Option.some.injEq] at ht; subst ht; exact .v _
  | sl b off f hn hc ha hcell hrec => simp only [loadZ, Option.some.injEq] at ht; subst ht; exact .sl (.sl b off f hn hc ha hcell hrec)

theorem run_loadVar_my {P : Program} {t : TypeId} {agg : Bool} {sz : Nat} (ha : aggT P t = some agg) (hs : szT P t = some sz) (b off : Nat) (w : World) (vs : List Value)
    (hlen : vs.length = if agg then sz else 1) (hc : ∀ i v, vs[i]? = some v → w.cell? ⟨b, off + i, none⟩ = some v) :
    (loadVar t ⟨b, off, none⟩).run P w = .ok (if agg then .agg vs.toArray else vs.getD 0 undef) w := by
  simp only [loadVar, Sem.run_bind, aggT_run ha, Result.andThen_ok]
  cases agg with
  | true =>
    simp only [if_true] at hlen ⊢
    subst hlen
    have := run_loadCells_list (P := P) w ⟨b, off, none⟩ vs (fun j v hj => by rw [addr_add]; exact hc j v hj)
    simp [szT_run hs, this]
  | false =>
    simp only [Bool.false_eq_true, if_false] at hlen ⊢
    obtain ⟨v, rfl⟩ : ∃ v, vs = [v] := by
      match vs, hlen with
      | [v], _ => exact ⟨v, rfl⟩
    have := hc 0 v rfl
    simp only [Nat.add_zero] at this
    simp [this]

theorem load_pure {P : Program} {o : Oper} {t : TypeId} {xo : Operand} (ho : o.op = .load t xo) {a : Act} {E : Env} {w0 : World} {n : Nat} {fr : Nat → T}
    (h : Inv E w0) (hf : FR E n fr a) {r : T} (hr : loadT P E.S t (ev fr xo) = some r) : ∃ v, (execOp a.eval o).run P E.w = .ok (.value v) E.w ∧ TR E r v := by
  unfold loadT at hr
  split at hr
  case h_2 => cases hr
  rename_i agg hagg
  split at hr
  case h_2 => cases hr
  rename_i sz hsz
  have hx := hf.ev xo
  have fin : ∀ (b off : Nat) (l : List T) (F : Nat → Value), l.length = (if agg then sz else 1) → (a.eval xo = .pointer (some ⟨b, off, none⟩)) →
      (∀ i t, l[i]? = some t → E.w.cell? ⟨b, off + i, none⟩ = some (F i) ∧ TR E t (F i)) → (if agg then r = .agg l else l[0]? = some r) → ∃ v, (execOp a.eval o).run P E.w = .ok (.value v) E.w ∧ TR E r v := by
    intro b off l F hl hv hi hrr
    have hrun := run_loadVar_my hagg hsz b off E.w ((List.range l.length).map F) (by simpa using hl) (fun i v hv => by
      rw [List.getElem?_map] at hv
      obtain ⟨i', hi', rfl⟩ := Option.map_eq_some_iff.1 hv
      have hlt : i < l.length := by
        have := (List.getElem?_eq_some_iff.1 hi').1; simpa using this
      rw [List.getElem?_range hlt] at hi'
      cases hi'
      exact (hi i _ (List.getElem?_eq_getElem hlt)).1)
    refine ⟨if agg then .agg ((List.range l.length).map F).toArray else ((List.range l.length).map F).getD 0 undef, ?_, ?_⟩
    · simp only [execOp, ho, hv, Sem.run_bind, Instr.loadAt, Instr.sureAddr, Sem.run_pure, Result.andThen_ok, hrun]
    · cases agg with
      | true =>
        simp only [if_true] at hrr ⊢
        subst hrr
        refine .agg (by simp) fun i t ht => ?_
        have hlt := (List.getElem?_eq_some_iff.1 ht).1
        rw [Array.getD_eq_getD_getElem?]
        simp only [List.getElem?_toArray, List.getElem?_map, List.getElem?_range hlt, Option.map_some, Option.getD_some]
        exact (hi i t ht).2
      | false =>
        simp only [Bool.false_eq_true, if_false] at hrr hl ⊢
        rw [hl]
        exact (hi 0 r hrr).2
  split at hr
  · rename_i r' p' off' hxo
    rw [hxo] at hx
    split at hr
    case h_2 => cases hr
    rename_i e cs hn
    obtain ⟨arr, ty, mk, hb, hlen, hmk, hB, hcr⟩ := h.blk r' p' e cs (Store.at_any hn)
    generalize hval : a.eval xo = val at hx
    have hval2 : val = .pointer (some ⟨E.φ r' p', off', none⟩) := by
      cases hx with
      | ptr hr hh => exact hh _ hn
    have key : ∀ (m : Nat) (l : List T), loadN (loadCell r' p') cs off' m = some l → ∀ i t, l[i]? = some t → E.w.cell? ⟨E.φ r' p', off' + i, none⟩ = some (arr.getD (off' + i) undef) ∧ TR E t (arr.getD (off' + i) undef) := by
      intro m l hl i t ht
      obtain ⟨c, hc, hg⟩ := loadN_at m off' l hl i t ht
      have hlt := (List.getElem?_eq_some_iff.1 hc).1
      refine ⟨?_, loadCell_tr h hn hc (hcr _ _ hc) hg⟩
      rw [cell_of_row _ _ _ _ _ _ hb, Array.getD_eq_getD_getElem?, Array.getElem?_eq_getElem (by omega)]
      rfl
    cases agg with
    | true =>
      simp only [if_true] at hr
      obtain ⟨l, hl, rfl⟩ := Option.map_eq_some_iff.1 hr
      exact fin _ _ l (fun i => arr.getD (off' + i) undef) (by simpa using loadN_length _ _ _ hl) (hval.trans hval2) (key _ l hl) (by simp)
    | false =>
      simp only [Bool.false_eq_true, if_false] at hr
      obtain ⟨l, hl, hr⟩ := Option.bind_eq_some_iff.1 hr
      exact fin _ _ l (fun i => arr.getD (off' + i) undef) (by simpa using loadN_length _ _ _ hl) (hval.trans hval2) (key _ l hl) (by simpa using hr)
  · rename_i k cs off' hxo
    rw [hxo] at hx
    generalize hval : a.eval xo = val at hx
    cases hx with
    | pz g hok hcell hrec =>
      rename_i b o2
      have key : ∀ (m : Nat) (l : List T), loadN (fun _ => loadZ k) cs off' m = some l → ∀ i t, l[i]? = some t → E.w.cell? ⟨b, o2 + off' + i, none⟩ = some (g (off' + i)) ∧ TR E t (g (off' + i)) := by
        intro m l hl i t ht
        obtain ⟨c, hc, hg⟩ := loadN_at m off' l hl i t ht
        exact ⟨by rw [Nat.add_assoc]; exact hcell _ _ hc, loadZ_tr (hrec _ _ hc) hg⟩
      cases agg with
      | true =>
        simp only [if_true] at hr
        obtain ⟨l, hl, rfl⟩ := Option.map_eq_some_iff.1 hr
        exact fin _ _ l (fun i => g (off' + i)) (by simpa using loadN_length _ _ _ hl) hval (key _ l hl) (by simp)
      | false =>
        simp only [Bool.false_eq_true, if_false] at hr
        obtain ⟨l, hl, hr⟩ := Option.bind_eq_some_iff.1 hr
        exact fin _ _ l (fun i => g (off' + i)) (by simpa using loadN_length _ _ _ hl) hval (key _ l hl) (by simpa using hr)
  · cases hr

theorem load_gives {P : Program} {o : Oper} {t : TypeId} {xo : Operand} (ho : o.op = .load t xo) {a : Act} {E : Env} {w0 : World} {n : Nat} {fr : Nat → T}
    (h : Inv E w0) (hf : FR E n fr a) {r : T} (hr : loadT P E.S t (ev fr xo) = some r) : Gives P o a E w0 r E.S := by
  obtain ⟨v, h1, h2⟩ := load_pure (P := P) ho h hf hr
  exact Gives.pure h h1 h2

end Go.TL

/- New variables and new rows on trees, cuts, lengths, structs: and that the model's operations come to just them. No conditions. -/
namespace Go.TL
set_option linter.unusedSimpArgs false
open Go.RowKit

/-- What may lie in a cell: a plain value, a frozen row, a reference to a row of one's own. -/
def cellOk : T → Bool
  | .v x => x.oneCell'
  | .sl false _ _ _ _ => true
  | .ref _ _ _ _ => true
  | _ => false

theorem FzR.oneCell {w : World} {ok : Nat → Prop} {t : T} {val : Value} (h : FzR w ok t val) : val.oneCell' = true := by
  cases h with
  | v _ hx => exact hx
  | sl => rfl

/-- A cell that is written with such a tree. (A reference that has lapsed says nothing of its value: the value's shape is asked for by itself.) -/
theorem TR.cell {E : Env} {t : T} {val : Value} (h : TR E t val) (ho : cellOk t = true) (h1 : val.oneCell' = true) (r : Nat) (p : List Nat) (j : Nat) : CR E r p j t val := by
  cases h with
  | v x => exact .v _ h1
  | sl hf => exact .fz hf
  | ref hr hh => exact .ref h1 (.ref hr hh)
  | ptr => simp [cellOk] at ho
  | pz => simp [cellOk] at ho
  | agg => simp [cellOk] at ho
  | tup => simp [cellOk] at ho
  | clo => simp [cellOk] at ho
  | dead => simp [cellOk] at ho

theorem NoOwn.of_ok {cs : List T} (h : cs.all cellOk = true) : NoOwn cs := by
  intro j k n e cs' hj
  have := List.all_eq_true.1 h _ (List.mem_of_getElem? hj)
  simp [cellOk] at this

def Env.drew (E : Env) : Env := { E with w := E.w.drew }

theorem Inv.new {P : Program} {o : Oper} {a : Act} {E : Env} {w0 : World} (h : Inv E w0) {w' : World} {arr : Array Value} {ty : TypeId} {mk : Nat × Nat} (hm : Made E.w w' arr ty mk) (e : Nat) (hmk : MkOk mk arr.size e) (cs : List T) (hok : cs.all cellOk = true) (hlen : cs.length ≤ arr.size)
    (hc : ∀ j c, cs[j]? = some c → TR E c (arr.getD j undef) ∧ (arr.getD j undef).oneCell' = true) {v : Value}
    (hr : (execOp a.eval o).run P E.w = .ok (.value v) w') {t : T} (ht : TR (E.push w' ⟨e, true, cs⟩) t v) :
    Gives P o a E w0 t (E.S ++ [⟨e, true, cs⟩]) := by
  have hno := NoOwn.of_ok hok
  have ev := Evo.push h hm ⟨e, true, cs⟩
  refine ⟨v, _, hr, rfl, h.push hm ⟨e, true, cs⟩ hno hlen hmk (fun j c hj => ?_), ev, ht⟩
  have := hc j c hj
  exact (this.1.evo ev).cell (List.all_eq_true.1 hok _ (List.mem_of_getElem? hj)) this.2 _ _ _

theorem mk0 (n e : Nat) : MkOk (0, 0) n e := fun o _ hh => by simp at hh

theorem Env.push_at {E : Env} {o : World} {e : Nat} {cs : List T} {any : Bool} : (E.push o ⟨e, true, cs⟩).S.at any E.S.length [] = some (e, cs) := by
  simp only [Env.push]
  rw [Store.at_push, if_pos rfl]
  rfl

theorem ptr_new (E : Env) (o : World) (x : Root) : TR (E.push o x) (.ptr E.S.length [] 0) (.pointer (some ⟨E.w.heap.size, 0, none⟩)) := by
  refine .ptr (by simp [Env.push]) fun _ _ => ?_
  simp [Env.push]

/-! ### alloc -/
def zeroT (P : Program) (t : TypeId) : Option (List T) :=
  match (P.info? t).bind (·.zero) with
  | some z => if z.cells.toList.all (·.oneCell') then some (z.cells.toList.map .v) else none
  | none => none

theorem zeroT_run {P : Program} {t : TypeId} {cs : List T} (h : zeroT P t = some cs) : ∃ z : Value, (∀ w, (zeroValue t).run P w = .ok z w) ∧ cs = z.cells.toList.map .v ∧ z.cells.toList.all (·.oneCell') = true := by
  unfold zeroT at h
  split at h
  case h_2 => cases h
  rename_i z hz
  split at h
  case isFalse => cases h
  rename_i ha
  cases h
  obtain ⟨i, hi, hz⟩ := Option.bind_eq_some_iff.1 hz
  exact ⟨z, fun w => by simp [zeroValue, typeInfo, hi, hz], rfl, ha⟩

theorem cells_v {E : Env} {vs : List Value} (h : vs.all (·.oneCell') = true) : (vs.map T.v).all cellOk = true ∧ ∀ j c, (vs.map T.v)[j]? = some c → TR E c (vs.toArray.getD j undef) ∧ (vs.toArray.getD j undef).oneCell' = true := by
  constructor
  · rw [List.all_map, ← h]; rfl
  · intro j c hj
    rw [List.getElem?_map] at hj
    obtain ⟨v, hv, rfl⟩ := Option.map_eq_some_iff.1 hj
    rw [Array.getD_eq_getD_getElem?, List.getElem?_toArray, hv]
    exact ⟨.v v, List.all_eq_true.1 h _ (List.mem_of_getElem? hv)⟩

theorem alloc_gives {P : Program} {o : Oper} {t : TypeId} (ho : o.op = .alloc t) {a : Act} {E : Env} {w0 : World} (h : Inv E w0) {cs : List T} (hr : zeroT P t = some cs) :
    Gives P o a E w0 (.ptr E.S.length [] 0) (E.S ++ [⟨0, true, cs⟩]) := by
  obtain ⟨z, hz, rfl, ha⟩ := zeroT_run hr
  obtain ⟨h1, h2⟩ := cells_v (E := E) ha
  refine Inv.new h (Made.alloc _ z.cells t _) 0 (mk0 _ _) _ h1 (by simp) h2 (v := .pointer (some ⟨E.w.heap.size, 0, none⟩)) ?_ (ptr_new _ _ _)
  simp only [execOp, ho, Instr.alloc, Sem.run_bind, hz, Result.andThen_ok, newVar, newRow, run_newObj, Sem.run_pure]
  rfl

/-! ### box -/
def compsT : T → List T
  | .agg ts => ts
  | t => [t]

/-- Is the value's shape known to be that of one cell? -/
def oneT : T → Bool
  | .v x => x.oneCell'
  | .sl _ _ _ _ _ => true
  | .ref _ _ _ _ => true
  | _ => false

def liveT (S : Store) : T → Bool
  | .ref r p _ _ => (S.at false r p).isSome
  | _ => true

theorem TR.one {E : Env} {t : T} {val : Value} (h : TR E t val) (ho : oneT t = true) (hl : liveT E.S t = true) : val.oneCell' = true := by
  cases h with
  | v x => exact ho
  | sl hf => exact hf.oneCell
  | ref hr hh =>
    obtain ⟨⟨e, cs⟩, hy⟩ := Option.isSome_iff_exists.1 hl
    obtain ⟨_, _, _, _, _, _, _, rfl⟩ := hh _ _ hy
    rfl
  | ptr => simp [oneT] at ho
  | pz => simp [oneT] at ho
  | agg => simp [oneT] at ho
  | tup => simp [oneT] at ho
  | clo => simp [oneT] at ho
  | dead => simp [oneT] at ho

def storable (S : Store) (ts : List T) : Bool := ts.all fun t => cellOk t && oneT t && liveT S t

/-- A tree's parts and the value's cells. -/
theorem TR.comps {E : Env} {t : T} {val : Value} (h : TR E t val) (hs : storable E.S (compsT t) = true) :
    val.cells.size = (compsT t).length ∧ (∀ j c, (compsT t)[j]? = some c → TR E c (val.cells.getD j undef) ∧ (val.cells.getD j undef).oneCell' = true) ∧ (compsT t).all cellOk = true ∧ val.cells.toList.all (·.oneCell') = true := by
  have hall : ∀ c ∈ compsT t, cellOk c = true ∧ oneT c = true ∧ liveT E.S c = true := fun c hc => by
    have := List.all_eq_true.1 hs c hc
    simp only [Bool.and_eq_true] at this
    exact ⟨this.1.1, this.1.2, this.2⟩
  have hok : (compsT t).all cellOk = true := List.all_eq_true.2 fun c hc => (hall c hc).1
  have base : val.cells.size = (compsT t).length ∧ ∀ j c, (compsT t)[j]? = some c → TR E c (val.cells.getD j undef) := by
    cases h with
    | agg hsz hh => exact ⟨hsz, hh⟩
    | v x =>
      have h1 := (hall (.v val) (by simp [compsT])).2.1
      have hv : val.cells = #[val] := by cases val <;> first | rfl | (simp [oneT, Value.oneCell'] at h1)
      rw [hv]
      refine ⟨rfl, fun j c hj => ?_⟩
      cases j with
      | zero => simp [compsT] at hj; subst hj; exact .v val
      | succ j => simp [compsT] at hj
    | sl hf =>
      have hv : val.cells = #[val] := by cases hf; rfl
      rw [hv]
      refine ⟨rfl, fun j c hj => ?_⟩
      cases j with
      | zero => simp [compsT] at hj; subst hj; exact .sl hf
      | succ j => simp [compsT] at hj
    | ref hr hh =>
      rename_i r p off n
      have hl := (hall (.ref r p off n) (by simp [compsT])).2.2
      have h1 := (TR.ref hr hh).one (E := E) (t := .ref r p off n) rfl hl
      have hv : val.cells = #[val] := by cases val <;> first | rfl | (simp [Value.oneCell'] at h1)
      rw [hv]
      refine ⟨rfl, fun j c hj => ?_⟩
      cases j with
      | zero => simp [compsT] at hj; subst hj; exact .ref hr hh
      | succ j => simp [compsT] at hj
    | ptr => have := (hall _ (List.mem_singleton.2 rfl)).1; simp [cellOk] at this
    | pz => have := (hall _ (List.mem_singleton.2 rfl)).1; simp [cellOk] at this
    | tup => have := (hall _ (List.mem_singleton.2 rfl)).1; simp [cellOk] at this
    | clo => have := (hall _ (List.mem_singleton.2 rfl)).1; simp [cellOk] at this
    | dead => have := (hall _ (List.mem_singleton.2 rfl)).1; simp [cellOk] at this
  have h3 : ∀ j c, (compsT t)[j]? = some c → TR E c (val.cells.getD j undef) ∧ (val.cells.getD j undef).oneCell' = true := fun j c hj => by
    have hm := hall c (List.mem_of_getElem? hj)
    exact ⟨base.2 j c hj, (base.2 j c hj).one hm.2.1 hm.2.2⟩
  refine ⟨base.1, h3, hok, List.all_eq_true.2 fun v hv => ?_⟩
  obtain ⟨j, hj⟩ := List.getElem?_of_mem hv
  rw [Array.getElem?_toList] at hj
  have hlt : j < (compsT t).length := by rw [← base.1]; exact (Array.getElem?_eq_some_iff.1 hj).1
  have := (h3 j _ (List.getElem?_eq_getElem hlt)).2
  rw [Array.getD_eq_getD_getElem?, hj] at this
  exact this

theorem box_gives {P : Program} {o : Oper} {t : TypeId} {xo : Operand} (ho : o.op = .box t xo) {a : Act} {E : Env} {w0 : World} {n : Nat} {fr : Nat → T} (h : Inv E w0) (hf : FR E n fr a)
    (hs : storable E.S (compsT (ev fr xo)) = true) : Gives P o a E w0 (.ptr E.S.length [] 0) (E.S ++ [⟨0, true, compsT (ev fr xo)⟩]) := by
  obtain ⟨h1, h2, h3, _⟩ := (hf.ev xo).comps hs
  refine Inv.new h (Made.alloc _ (a.eval xo).cells t _) 0 (mk0 _ _) _ h3 (by omega) h2 (v := .pointer (some ⟨E.w.heap.size, 0, none⟩)) ?_ (ptr_new _ _ _)
  simp only [execOp, ho, Instr.box, Sem.run_bind, newVar, newRow, run_newObj, Result.andThen_ok, Sem.run_pure]
  rfl

end Go.TL

/- Rows and structs written out, lengths, cuts, fields, elements: on trees, and that the model's operations come to just them. No conditions. -/
namespace Go.TL
set_option linter.unusedSimpArgs false
open Go.RowKit

def setR {α : Type} : List α → Nat → List α → List α
  | cs, _, [] => cs
  | cs, j, t :: ts => setR (cs.set j t) (j + 1) ts

theorem setR_length {α : Type} : ∀ (ts cs : List α) (j : Nat), (setR cs j ts).length = cs.length
  | [], _, _ => rfl
  | t :: ts, cs, j => by rw [setR, setR_length ts]; simp

/-- Cells and their values. -/
def RL (E : Env) (ts : List T) (vs : List Value) : Prop := vs.length = ts.length ∧ ∀ (j : Nat) (c : T), ts[j]? = some c → ∃ v : Value, vs[j]? = some v ∧ TR E c v ∧ v.oneCell' = true ∧ cellOk c = true

theorem RL.set {E : Env} {ts : List T} {vs : List Value} (h : RL E ts vs) (j : Nat) {c : T} {v : Value} (hc : TR E c v) (h1 : v.oneCell' = true) (h2 : cellOk c = true) : RL E (ts.set j c) (vs.set j v) := by
  refine ⟨by simp [h.1], fun i x hx => ?_⟩
  rw [List.getElem?_set] at hx ⊢
  split at hx
  · rename_i e
    subst e
    split at hx
    · rename_i hl
      cases hx
      rw [if_pos rfl, if_pos (by rw [h.1]; exact hl)]
      exact ⟨v, rfl, hc, h1, h2⟩
    · cases hx
  · rename_i e
    rw [if_neg e]
    exact h.2 i x hx

theorem RL.setR {E : Env} : ∀ (us : List T) (ws : List Value) {ts : List T} {vs : List Value} (j : Nat), RL E ts vs → RL E us ws → RL E (TL.setR ts j us) (TL.setR vs j ws)
  | [], ws, ts, vs, j, h, k => by
    have : ws = [] := List.eq_nil_of_length_eq_zero (by simpa using k.1)
    subst this; exact h
  | u :: us, [], _, _, _, _, k => by have := k.1; simp at this
  | u :: us, w :: ws, ts, vs, j, h, k => by
    obtain ⟨v, hv, h1, h2, h3⟩ := k.2 0 u rfl
    simp only [List.getElem?_cons_zero, Option.some.injEq] at hv
    subst hv
    exact RL.setR us ws (j + 1) (h.set j h1 h2 h3) ⟨by simpa using k.1, fun i c hc => by simpa using k.2 (i + 1) c (by simpa using hc)⟩

theorem foldl_setR : ∀ (vs : List Value) (cs : Array Value) (off k : Nat), ((vs.zipIdx k).foldl (fun (cs : Array Value) (x : Value × Nat) => cs.setIfInBounds (off + x.2) x.1) cs).toList = setR cs.toList (off + k) vs
  | [], _, _, _ => rfl
  | v :: vs, cs, off, k => by
    rw [List.zipIdx_cons, List.foldl_cons, foldl_setR vs, setR, Array.toList_setIfInBounds]
    rfl

def fillT (place : Nat → Option (Nat × Nat)) (cells : List T) : List (Nat × T) → Option (List T)
  | [] => some cells
  | (i, t) :: rest => match place i with
    | none => none
    | some (off, size) => if (compsT t).length ≠ size ∨ off + size > cells.length then none else fillT place (setR cells off (compsT t)) rest

theorem TR.rl {E : Env} {t : T} {val : Value} (h : TR E t val) (hs : storable E.S (compsT t) = true) : RL E (compsT t) val.cells.toList := by
  obtain ⟨h1, h2, h3, h4⟩ := h.comps hs
  refine ⟨by rw [Array.length_toList]; exact h1, fun j c hj => ?_⟩
  have hlt := (List.getElem?_eq_some_iff.1 hj).1
  have hg : val.cells.toList[j]? = some (val.cells.getD j undef) := by
    rw [Array.getElem?_toList, Array.getD_eq_getD_getElem?, Array.getElem?_eq_getElem (by omega)]; rfl
  exact ⟨_, hg, (h2 j c hj).1, (h2 j c hj).2, List.all_eq_true.1 h3 _ (List.mem_of_getElem? hj)⟩

theorem fill_rl {E : Env} {place : Nat → Option (Nat × Nat)} : ∀ (parts : List (Nat × T)) (vparts : List (Nat × Value)) (cells : List T) (vcells : Array Value) (r : List T),
    RL E cells vcells.toList → vparts.length = parts.length → (∀ (j : Nat) (x : Nat × T), parts[j]? = some x → ∃ v : Value, vparts[j]? = some (x.1, v) ∧ TR E x.2 v ∧ storable E.S (compsT x.2) = true) →
    fillT place cells parts = some r → ∃ rv, Instr.fill place vcells vparts = some rv ∧ RL E r rv.toList
  | [], vparts, cells, vcells, r, h, hl, _, hr => by
    have : vparts = [] := List.eq_nil_of_length_eq_zero (by simpa using hl)
    subst this
    simp only [fillT, Option.some.injEq] at hr
    subst hr
    exact ⟨vcells, rfl, h⟩
  | (i, t) :: parts, [], _, _, _, _, hl, _, _ => by simp at hl
  | (i, t) :: parts, y :: vparts, cells, vcells, r, h, hl, hp, hr => by
    obtain ⟨v, hv, ht, hs⟩ := hp 0 (i, t) rfl
    simp only [List.getElem?_cons_zero, Option.some.injEq] at hv
    subst hv
    have hrl := ht.rl hs
    simp only [fillT] at hr
    split at hr
    · cases hr
    rename_i off size hpl
    split at hr
    · cases hr
    rename_i hb
    have hb1 : (compsT t).length = size := by
      rcases Nat.decEq (compsT t).length size with h1 | h1
      · exact absurd (.inl h1) hb
      · exact h1
    have hb2 : ¬ off + size > cells.length := fun hh => hb (.inr hh)
    have hvs : v.cells.size = size := by rw [← Array.length_toList, hrl.1, hb1]
    have hcs : vcells.size = cells.length := by rw [← Array.length_toList, h.1]
    have e1 : (v.cells.zipIdx.foldl (fun cs (c, j) => cs.setIfInBounds (off + j) c) vcells).toList = setR vcells.toList off v.cells.toList := by
      rw [← Array.foldl_toList, Array.toList_zipIdx]
      have := foldl_setR v.cells.toList vcells off 0
      simpa using this
    obtain ⟨rv, h1, h2⟩ := fill_rl parts vparts (setR cells off (compsT t)) (v.cells.zipIdx.foldl (fun cs (c, j) => cs.setIfInBounds (off + j) c) vcells) r
      (by rw [e1]; exact RL.setR _ _ off h hrl) (by simpa using hl) (fun j x hx => by simpa using hp (j + 1) x (by simpa using hx)) hr
    refine ⟨rv, ?_, h2⟩
    unfold Instr.fill
    simp only [hpl]
    rw [if_neg (by rw [hvs, hcs]; simp; omega)]
    exact h1

theorem RL.vs {E : Env} {vs : List Value} (h : vs.all (·.oneCell') = true) : RL E (vs.map T.v) vs := by
  refine ⟨by simp, fun j c hj => ?_⟩
  rw [List.getElem?_map] at hj
  obtain ⟨v, hv, rfl⟩ := Option.map_eq_some_iff.1 hj
  have := List.all_eq_true.1 h _ (List.mem_of_getElem? hv)
  exact ⟨v, hv, .v v, this, this⟩

theorem RL.new {E : Env} {ts : List T} {vs : Array Value} (h : RL E ts vs.toList) : ts.all cellOk = true ∧ ts.length ≤ vs.size ∧ ∀ (j : Nat) (c : T), ts[j]? = some c → TR E c (vs.getD j undef) ∧ (vs.getD j undef).oneCell' = true := by
  refine ⟨List.all_eq_true.2 fun c hc => ?_, by rw [← h.1]; simp, fun j c hj => ?_⟩
  · obtain ⟨j, hj⟩ := List.getElem?_of_mem hc
    exact (h.2 j c hj).choose_spec.2.2.2
  · obtain ⟨v, h1, h2, h3, _⟩ := h.2 j c hj
    rw [Array.getElem?_toList] at h1
    rw [Array.getD_eq_getD_getElem?, h1]
    exact ⟨h2, h3⟩

def partsT (fr : Nat → T) (parts : Array (Nat × Operand)) : List (Nat × T) := parts.toList.map fun x => (x.1, ev fr x.2)

def partsOk (S : Store) (ps : List (Nat × T)) : Bool := ps.all fun x => storable S (compsT x.2)

theorem parts_rl {E : Env} {n : Nat} {fr : Nat → T} {a : Act} (hf : FR E n fr a) {parts : Array (Nat × Operand)} (hs : partsOk E.S (partsT fr parts) = true) :
    ((parts.map fun (i, x) => (i, a.eval x)).toList.length = (partsT fr parts).length) ∧ ∀ (j : Nat) (x : Nat × T), (partsT fr parts)[j]? = some x → ∃ v : Value, (parts.map fun (i, x) => (i, a.eval x)).toList[j]? = some (x.1, v) ∧ TR E x.2 v ∧ storable E.S (compsT x.2) = true := by
  refine ⟨by simp [partsT], fun j x hx => ?_⟩
  have hm := List.all_eq_true.1 hs x (List.mem_of_getElem? hx)
  simp only [partsT, List.getElem?_map] at hx
  obtain ⟨y, hy, rfl⟩ := Option.map_eq_some_iff.1 hx
  refine ⟨a.eval y.2, ?_, hf.ev y.2, hm⟩
  rw [Array.toList_map, List.getElem?_map, hy]
  rfl

/-! ### buildSlice -/
def repT (zs : List T) (n : Nat) : List T := (List.replicate n zs).flatten

theorem rl_rep {E : Env} {zs : List T} {z : Array Value} (h : RL E zs z.toList) (n : Nat) : RL E (repT zs n) ((Array.range (n * z.size)).map (fun i => z[i % z.size]!)).toList := by
  have hzl : zs.length = z.size := by rw [← h.1]; simp
  have key : ∀ (n j : Nat) (c : T), (repT zs n)[j]? = some c → j < n * z.size ∧ zs[j % z.size]? = some c := by
    intro n
    induction n with
    | zero => intro j c hj; simp [repT] at hj
    | succ n ih =>
      intro j c hj
      have e : repT zs (n + 1) = zs ++ repT zs n := by simp [repT, List.replicate_succ]
      rw [e] at hj
      rcases Nat.lt_or_ge j zs.length with hlt | hge
      · rw [List.getElem?_append_left hlt] at hj
        rw [Nat.mod_eq_of_lt (by omega)]
        exact ⟨by rw [Nat.succ_mul]; omega, hj⟩
      · rw [List.getElem?_append_right hge] at hj
        obtain ⟨h1, h2⟩ := ih _ _ hj
        rw [hzl] at h1 h2 hge
        refine ⟨by rw [Nat.succ_mul]; omega, ?_⟩
        rw [← h2, Nat.mod_eq_sub_mod hge]
  refine ⟨by simp [repT, hzl], fun j c hj => ?_⟩
  obtain ⟨h1, h2⟩ := key n j c hj
  obtain ⟨v, h3, h4⟩ := h.2 _ _ h2
  refine ⟨v, ?_, h4⟩
  rw [Array.toList_map, List.getElem?_map, Array.getElem?_toList, Array.getElem?_range, if_pos h1]
  simp only [Option.map_some, Option.some.injEq]
  rw [Array.getElem?_toList] at h3
  rw [getElem!_def, h3]

theorem flatten_rep_len (zs : List T) (n : Nat) : (repT zs n).length = n * zs.length := by simp [repT]

def buildSliceT (P : Program) (S : Store) (t : TypeId) (len : Nat) (ps : List (Nat × T)) : Option (T × Store) :=
  match elemT P t with
  | some e => match szT P e, zeroT P e with
    | some sz, some zs =>
      if sz = 0 ∨ len * sz > 2 ^ 24 ∨ zs.length ≠ sz ∨ partsOk S ps = false then none else
      (fillT (fun i => some (i * sz, sz)) (repT zs len) ps).map fun cs => (.ref S.length [] 0 len, S ++ [⟨sz, true, cs⟩])
    | _, _ => none
  | none => none

theorem fillT_length {place : Nat → Option (Nat × Nat)} : ∀ (ps : List (Nat × T)) (cells r : List T), fillT place cells ps = some r → r.length = cells.length
  | [], cells, r, h => by simp only [fillT, Option.some.injEq] at h; rw [h]
  | (i, t) :: ps, cells, r, h => by
    simp only [fillT] at h
    split at h
    · cases h
    split at h
    · cases h
    rw [fillT_length ps _ r h, setR_length]

theorem ref_new (E : Env) {w' : World} {cells : Array Value} {ty : TypeId} {mk : Nat × Nat} (hm : Made E.w w' cells ty mk) (e n cap : Nat) (cs : List T) (hn : n ≤ cap) (hc : cap * e ≤ cells.size) :
    TR (E.push w' ⟨e, true, cs⟩) (.ref E.S.length [] 0 n) (.slice (some ⟨E.w.heap.size, 0, none⟩) n cap) := by
  refine .ref (by simp [Env.push]) fun e' cs' h => ?_
  rw [show (E.push w' ⟨e, true, cs⟩).S.at false E.S.length [] = some (e, cs) from Env.push_at] at h
  cases h
  have e1 : (E.push w' ⟨e, true, cs⟩).φ E.S.length [] = E.w.heap.size := by simp [Env.push]
  rw [e1]
  exact ⟨cap, cells, ty, mk, hm.new, hn, by omega, rfl⟩

theorem buildSlice_gives {P : Program} {o : Oper} {t : TypeId} {len : Nat} {parts : Array (Nat × Operand)} (ho : o.op = .buildSlice t len parts) {a : Act} {E : Env} {w0 : World} {n : Nat} {fr : Nat → T}
    (h : Inv E w0) (hf : FR E n fr a) {r : T} {S' : Store} (hr : buildSliceT P E.S t len (partsT fr parts) = some (r, S')) : Gives P o a E w0 r S' := by
  unfold buildSliceT at hr
  split at hr
  case h_2 => cases hr
  rename_i e he
  split at hr
  case h_2 => cases hr
  rename_i sz zs hsz hzs
  split at hr
  · cases hr
  rename_i hc
  simp only [not_or] at hc
  obtain ⟨hc1, hc2, hc3, hc4⟩ := hc
  obtain ⟨cs, hcs, hr⟩ := Option.map_eq_some_iff.1 hr
  cases hr
  obtain ⟨z, hz, rfl, ha⟩ := zeroT_run hzs
  have hzl : z.cells.size = sz := by
    have : (z.cells.toList.map T.v).length = sz := by
      rcases Nat.decEq (z.cells.toList.map T.v).length sz with h1 | h1
      · exact absurd h1 hc3
      · exact h1
    simpa using this
  subst hzl
  obtain ⟨hp1, hp2⟩ := parts_rl hf (by simpa using hc4)
  have hrep := rl_rep (E := E) (z := z.cells) (RL.vs ha) len
  obtain ⟨rv, h1, h2⟩ := fill_rl (partsT fr parts) _ _ _ cs hrep hp1 hp2 hcs
  have hl := fillT_length _ _ _ hcs
  obtain ⟨n1, n2, n3⟩ := h2.new
  have hrs : rv.size = len * z.cells.size := by
    have : cs.length = rv.size := by rw [← h2.1]; simp
    rw [← this, hl, flatten_rep_len]; simp
  refine Inv.new h (Made.alloc _ rv e _) _ (mk0 _ _) cs n1 n2 n3 (v := .slice (some ⟨E.w.heap.size, 0, none⟩) len len) ?_ (ref_new E (Made.alloc _ rv e _) _ len len cs (Nat.le_refl _) (by omega))
  have hu := elemT_run he
  have hrun : (Instr.buildSlice t len (parts.map fun (i, x) => (i, a.eval x))).run P E.w = .ok (.slice (some ⟨E.w.heap.size, 0, none⟩) len len) (E.w.alloc (.cells rv e)) := by
    unfold Instr.buildSlice
    simp only [Sem.run_bind, run_underlying hu, Result.andThen_ok, szT_run hsz]
    rw [if_neg hc2]
    rcases Nat.eq_zero_or_pos (len * z.cells.size) with h0 | h0
    · have hlen0 : len = 0 := by
        rcases Nat.mul_eq_zero.1 h0 with h5 | h5
        · exact h5
        · exact absurd h5 hc1
      subst hlen0
      simp only [Nat.zero_mul, if_true, Sem.run_bind, Sem.run_pure, Result.andThen_ok]
      have e3 : (Array.range 0).map (fun i => (#[] : Array Value)[i % (#[] : Array Value).size]!) = (Array.range (0 * z.cells.size)).map (fun i => z.cells[i % z.cells.size]!) := by simp
      rw [e3, h1]
      simp only [newRow, Sem.run_bind, run_newObj, Result.andThen_ok, Sem.run_pure]
      rfl
    · rw [if_neg (by omega)]
      simp only [Sem.run_bind, hz, Result.andThen_ok, Sem.run_pure]
      rw [h1]
      simp only [newRow, Sem.run_bind, run_newObj, Result.andThen_ok, Sem.run_pure]
      rfl
  simp only [execOp, ho, Sem.run_bind, hrun, Result.andThen_ok, Sem.run_pure]

/-! ### build: a struct or an array -/
def fldsT (P : Program) : List Field → Option (List (Nat × Nat))
  | [] => some []
  | f :: fs => (szT P f.type).bind fun n => (fldsT P fs).map fun l => (f.offset, n) :: l

def buildT (P : Program) (S : Store) (t : TypeId) (ps : List (Nat × T)) : Option T :=
  match zeroT P t with
  | some zs => if partsOk S ps = false then none else match P.underlying t with
    | some (.struct fs) => (fldsT P fs.toList).bind fun l => (fillT (fun i => l[i]?) zs ps).map .agg
    | some (.array _ e) => (szT P e).bind fun sz => (fillT (fun i => some (i * sz, sz)) zs ps).map .agg
    | _ => none
  | none => none

theorem fldsT_run {P : Program} : ∀ (fs : List Field) (l : List (Nat × Nat)), fldsT P fs = some l → ∀ w, (fs.mapM (fun f => do pure (f.offset, ← sizeOf f.type)) : Sem (List (Nat × Nat))).run P w = .ok l w
  | [], l, h, w => by simp only [fldsT, Option.some.injEq] at h; subst h; rfl
  | f :: fs, l, h, w => by
    simp only [fldsT] at h
    obtain ⟨n, hn, h⟩ := Option.bind_eq_some_iff.1 h
    obtain ⟨l', hl, rfl⟩ := Option.map_eq_some_iff.1 h
    rw [List.mapM_cons]
    simp only [Sem.run_bind, szT_run hn, Result.andThen_ok, Sem.run_pure, fldsT_run fs l' hl w]

theorem RL.agg {E : Env} {ts : List T} {vs : Array Value} (h : RL E ts vs.toList) : TR E (.agg ts) (.agg vs) :=
  .agg (by rw [← h.1]; simp) fun j c hj => (h.new.2.2 j c hj).1

theorem build_gives {P : Program} {o : Oper} {t : TypeId} {parts : Array (Nat × Operand)} (ho : o.op = .build t parts) {a : Act} {E : Env} {w0 : World} {n : Nat} {fr : Nat → T}
    (h : Inv E w0) (hf : FR E n fr a) {r : T} (hr : buildT P E.S t (partsT fr parts) = some r) : Gives P o a E w0 r E.S := by
  unfold buildT at hr
  split at hr
  case h_2 => cases hr
  rename_i zs hzs
  split at hr
  · cases hr
  rename_i hok
  obtain ⟨z, hz, rfl, ha⟩ := zeroT_run hzs
  obtain ⟨hp1, hp2⟩ := parts_rl hf (by simpa using hok)
  split at hr
  · rename_i fs hu
    obtain ⟨l, hl, hr⟩ := Option.bind_eq_some_iff.1 hr
    obtain ⟨cs, hcs, rfl⟩ := Option.map_eq_some_iff.1 hr
    obtain ⟨rv, h1, h2⟩ := fill_rl (partsT fr parts) _ _ _ cs (RL.vs ha) hp1 hp2 hcs
    refine Gives.pure h (v := .agg rv) ?_ h2.agg
    have hrun : (Instr.build t (parts.map fun (i, x) => (i, a.eval x))).run P E.w = .ok (.agg rv) E.w := by
      unfold Instr.build
      simp only [Sem.run_bind, hz, Result.andThen_ok, run_underlying hu]
      have e1 : (fs.mapM (fun f => do pure (f.offset, ← sizeOf f.type)) : Sem (Array (Nat × Nat))).run P E.w = .ok l.toArray E.w := by
        rw [Array.mapM_eq_mapM_toList]
        simp only [Sem.run_map, fldsT_run fs.toList l hl E.w, Result.andThen_ok]
      rw [e1]
      simp only [Result.andThen_ok, List.getElem?_toArray]
      rw [h1]
      rfl
    simp only [execOp, ho, Sem.run_bind, hrun, Result.andThen_ok, Sem.run_pure]
  · rename_i n1 e hu
    obtain ⟨sz, hsz, hr⟩ := Option.bind_eq_some_iff.1 hr
    obtain ⟨cs, hcs, rfl⟩ := Option.map_eq_some_iff.1 hr
    obtain ⟨rv, h1, h2⟩ := fill_rl (partsT fr parts) _ _ _ cs (RL.vs ha) hp1 hp2 hcs
    refine Gives.pure h (v := .agg rv) ?_ h2.agg
    have hrun : (Instr.build t (parts.map fun (i, x) => (i, a.eval x))).run P E.w = .ok (.agg rv) E.w := by
      unfold Instr.build
      simp only [Sem.run_bind, hz, Result.andThen_ok, run_underlying hu, szT_run hsz]
      rw [h1]
      rfl
    simp only [execOp, ho, Sem.run_bind, hrun, Result.andThen_ok, Sem.run_pure]
  · cases hr

/-! ### makeSlice -/
def makeSliceT (P : Program) (S : Store) (t : TypeId) (l c : T) : Option (T × Store) :=
  match l, c with
  | .v (.int _ l), .v (.int _ c) => match elemT P t with
    | some e => match szT P e, bytesT P e, zeroT P e with
      | some sz, some bs, some zs =>
        if 0 ≤ l ∧ l ≤ c ∧ c < 2 ^ 63 ∧ (bs : Int) * c ≤ 2 ^ 48 ∧ zs.length = sz ∧ 0 < sz then some (.ref S.length [] 0 l.toNat, S ++ [⟨sz, true, repT zs l.toNat⟩]) else none
      | _, _, _ => none
    | none => none
  | _, _ => none

theorem wrap_i64 (x : Int) (h0 : 0 ≤ x) (h1 : x < 2 ^ 63) : IntKind.i64.wrap x = x := by
  unfold IntKind.wrap
  have e : x % 2 ^ 64 = x := by omega
  simp only [IntKind.bits, IntKind.signed, e, Bool.true_and]
  rw [if_neg]
  simp
  omega

theorem makeSlice_gives {P : Program} {o : Oper} {t : TypeId} {lo co : Operand} (ho : o.op = .makeSlice t lo co) {a : Act} {E : Env} {w0 : World} {n : Nat} {fr : Nat → T}
    (h : Inv E w0) (hf : FR E n fr a) {r : T} {S' : Store} (hr : makeSliceT P E.S t (ev fr lo) (ev fr co) = some (r, S')) : Gives P o a E w0 r S' := by
  unfold makeSliceT at hr
  split at hr
  case h_2 => cases hr
  rename_i kl l kc c hl hc
  have hlv := (hf.ev lo).toV _ _ (.int kl l) (by rw [hl]; rfl)
  have hcv := (hf.ev co).toV _ _ (.int kc c) (by rw [hc]; rfl)
  split at hr
  case h_2 => cases hr
  rename_i e he
  split at hr
  case h_2 => cases hr
  rename_i sz bs zs hsz hbs hzs
  split at hr
  case isFalse => cases hr
  rename_i hb
  obtain ⟨b1, b2, b3, b4, b5, b6⟩ := hb
  cases hr
  obtain ⟨z, hz, rfl, ha⟩ := zeroT_run hzs
  have hzl : z.cells.size = sz := by simpa using b5
  obtain ⟨i, hi, hbi⟩ := Option.map_eq_some_iff.1 hbs
  have hu := elemT_run he
  have hrl := rl_rep (E := E) (z := z.cells) (RL.vs ha) c.toNat
  have hwl := wrap_i64 l b1 (by omega)
  have hwc := wrap_i64 c (by omega) b3
  have hpre : ∀ (j : Nat) (x : T), (repT (z.cells.toList.map T.v) l.toNat)[j]? = some x → (repT (z.cells.toList.map T.v) c.toNat)[j]? = some x := by
    intro j x hj
    have e1 : repT (z.cells.toList.map T.v) c.toNat = repT (z.cells.toList.map T.v) l.toNat ++ repT (z.cells.toList.map T.v) (c.toNat - l.toNat) := by
      unfold repT
      rw [← List.flatten_append, List.replicate_append_replicate]
      congr 2
      omega
    rw [e1, List.getElem?_append_left (List.getElem?_eq_some_iff.1 hj).1]
    exact hj
  have hlen : (repT (z.cells.toList.map T.v) l.toNat).length = l.toNat * sz := by rw [flatten_rep_len]; simp [hzl]
  have hall : (repT (z.cells.toList.map T.v) l.toNat).all cellOk = true := by
    refine List.all_eq_true.2 fun x hx => ?_
    obtain ⟨j, hj⟩ := List.getElem?_of_mem hx
    exact (hrl.2 j x (hpre j x hj)).choose_spec.2.2.2
  have hsize : ((Array.range (c.toNat * z.cells.size)).map (fun i => z.cells[i % z.cells.size]!)).size = c.toNat * sz := by simp [hzl]
  refine Inv.new h (Made.alloc _ ((Array.range (c.toNat * z.cells.size)).map (fun i => z.cells[i % z.cells.size]!)) e _) sz (mk0 _ _) _ hall ?_ (fun j x hj => hrl.new.2.2 j x (hpre j x hj)) (v := .slice (some ⟨E.w.heap.size, 0, none⟩) l.toNat c.toNat) ?_
    (ref_new E (Made.alloc _ _ e _) sz l.toNat c.toNat _ (by omega) (by omega))
  · rw [hlen, hsize]; exact Nat.mul_le_mul_right _ (by omega)
  · have hnt : ¬ (c < 0 ∨ (bs : Int) * c > 2 ^ 48) := by omega
    have hrun : (Instr.makeSlice t (.int kl l) (.int kc c)).run P E.w = .ok (.slice (some ⟨E.w.heap.size, 0, none⟩) l.toNat c.toNat) (E.w.alloc (.cells ((Array.range (c.toNat * z.cells.size)).map (fun i => z.cells[i % z.cells.size]!)) e)) := by
      unfold Instr.makeSlice
      simp only [Sem.run_bind, run_underlying hu, Result.andThen_ok, asInt, asIntOf, Sem.run_pure, typeInfo, run_program, hi, hbi, hwl, hwc]
      rw [if_neg (by simp; omega)]
      simp only [Sem.run_bind, run_askRoom, Result.andThen_ok, szT_run hsz]
      have fin : ∀ (zz : Array Value), (Array.range (c.toNat * sz)).map (fun i => zz[i % zz.size]!) = (Array.range (c.toNat * z.cells.size)).map (fun i => z.cells[i % z.cells.size]!) →
          (Sem.run P (do let a ← newRow e ((Array.range (c.toNat * sz)).map (fun i => zz[i % zz.size]!)); pure (Value.slice (some a) l.toNat c.toNat)) E.w) = .ok (.slice (some ⟨E.w.heap.size, 0, none⟩) l.toNat c.toNat) (E.w.alloc (.cells ((Array.range (c.toNat * z.cells.size)).map (fun i => z.cells[i % z.cells.size]!)) e)) := by
        intro zz hzz
        rw [hzz]
        simp only [newRow, Sem.run_bind, run_newObj, Result.andThen_ok, Sem.run_pure]
        rfl
      by_cases h0 : c.toNat * sz = 0
      · simp only [h0, if_true, Sem.run_bind, Sem.run_pure, Result.andThen_ok]
        have := fin #[] (by simp [hzl, h0])
        rw [h0] at this
        simp only [Sem.run_bind, Sem.run_pure] at this
        exact this
      · simp only [h0, if_false, Sem.run_bind, Sem.run_pure, Result.andThen_ok, hz]
        have := fin z.cells (by rw [hzl])
        simp only [Sem.run_bind, Sem.run_pure] at this
        exact this
    simp only [execOp, ho, Sem.run_bind, hlv, hcv, hrun, Result.andThen_ok, Sem.run_pure]

end Go.TL

/- Fields, elements, lengths, cuts and conversions on trees. No conditions. -/
namespace Go.TL
set_option linter.unusedSimpArgs false
open Go.RowKit

/-! ### values alone: any operation whose operands are all plain -/
def fieldT (P : Program) (t : TypeId) (x : T) (f : Nat) : Option T :=
  match fldT P t f with
  | some (off, n, ty) => match aggT P ty with
    | some agg => match x with
      | .agg ts => if agg then (if off + n ≤ ts.length then some (.agg ((ts.drop off).take n)) else none) else ts[off]?
      | _ => none
    | none => none
  | none => none

theorem run_part {P : Program} {t : TypeId} {agg : Bool} {n : Nat} (ha : aggT P t = some agg) (hs : szT P t = some n) (cs : Array Value) (off : Nat) (hb : off + (if agg then n else 1) ≤ cs.size) (w : World) :
    (part t cs off).run P w = .ok (if agg then .agg (cs.extract off (off + n)) else cs.getD off undef) w := by
  unfold part
  simp only [Sem.run_bind, aggT_run ha, Result.andThen_ok]
  cases agg with
  | true => simp only [if_true, Sem.run_bind, szT_run hs, Result.andThen_ok, Sem.run_pure]
  | false =>
    simp only [Bool.false_eq_true, if_false] at hb ⊢
    rw [Array.getD_eq_getD_getElem?, Array.getElem?_eq_getElem (by omega)]
    rfl

theorem agg_part {E : Env} {ts : List T} {vs : Array Value} (hs : vs.size = ts.length) (hh : ∀ i t, ts[i]? = some t → TR E t (vs.getD i undef)) {off n : Nat} (hb : off + n ≤ ts.length) :
    TR E (.agg ((ts.drop off).take n)) (.agg (vs.extract off (off + n))) := by
  refine .agg (by simp; omega) fun i t ht => ?_
  have hi : i < n := by have := (List.getElem?_eq_some_iff.1 ht).1; simp at this; omega
  rw [List.getElem?_take_of_lt hi, List.getElem?_drop] at ht
  have := hh _ _ ht
  rw [Array.getD_eq_getD_getElem?] at this ⊢
  rw [Array.getElem?_extract, if_pos (by omega)]
  exact this

theorem field_gives {P : Program} {o : Oper} {t : TypeId} {xo : Operand} {f : Nat} (ho : o.op = .field t xo f) {a : Act} {E : Env} {w0 : World} {n : Nat} {fr : Nat → T}
    (h : Inv E w0) (hf : FR E n fr a) {r : T} (hr : fieldT P t (ev fr xo) f = some r) : Gives P o a E w0 r E.S := by
  unfold fieldT at hr
  split at hr
  case h_2 => cases hr
  rename_i off m ty hfl
  split at hr
  case h_2 => cases hr
  rename_i agg hagg
  split at hr
  case h_2 => cases hr
  rename_i ts hts
  have hx := hf.ev xo
  rw [hts] at hx
  generalize hval : a.eval xo = val at hx
  cases hx with
  | agg hs hh =>
    rename_i vs
    unfold fldT at hfl
    split at hfl
    case h_2 => cases hfl
    rename_i fs hu
    obtain ⟨y, hy, hfl⟩ := Option.bind_eq_some_iff.1 hfl
    obtain ⟨m', hm, hfl⟩ := Option.map_eq_some_iff.1 hfl
    simp only [Prod.mk.injEq] at hfl
    obtain ⟨rfl, rfl, rfl⟩ := hfl
    have hb : y.offset + (if agg then m' else 1) ≤ vs.size := by
      cases agg with
      | true =>
        simp only [if_true] at hr ⊢
        split at hr
        · omega
        · cases hr
      | false => simp only [Bool.false_eq_true, if_false] at hr ⊢; have := (List.getElem?_eq_some_iff.1 hr).1; omega
    refine Gives.pure h (v := if agg then .agg (vs.extract y.offset (y.offset + m')) else vs.getD y.offset undef) ?_ ?_
    · simp only [execOp, ho, hval, Sem.run_bind, Instr.field, run_underlying hu, Result.andThen_ok, hy, asAgg, Sem.run_pure, run_part hagg hm vs y.offset hb]
    · cases agg with
      | true =>
        simp only [if_true] at hr ⊢
        split at hr
        · rename_i hle; cases hr; exact agg_part hs hh hle
        · cases hr
      | false => simp only [Bool.false_eq_true, if_false] at hr ⊢; exact hh _ _ hr

/-- An element of a string or of an array that lies in a slot. -/
def indexT (P : Program) (t : TypeId) (x i : T) : Option T :=
  match i with
  | .v (.int _ i) => match x with
    | .v (.string s) => match P.underlying t with
      | some .string => if 0 ≤ i then (s[i.toNat]?).map fun b => .v (.int .u8 b.toNat) else none
      | _ => none
    | .agg ts => match arrT P t with
      | some (n, e) => match szT P e, aggT P e with
        | some sz, some agg => if 0 ≤ i ∧ i < n then (if agg then (if i.toNat * sz + sz ≤ ts.length then some (.agg ((ts.drop (i.toNat * sz)).take sz)) else none) else ts[i.toNat * sz]?) else none
        | _, _ => none
      | none => none
    | _ => none
  | _ => none

theorem index_gives {P : Program} {o : Oper} {t : TypeId} {xo io : Operand} (ho : o.op = .index t xo io) {a : Act} {E : Env} {w0 : World} {n : Nat} {fr : Nat → T}
    (h : Inv E w0) (hf : FR E n fr a) {r : T} (hr : indexT P t (ev fr xo) (ev fr io) = some r) : Gives P o a E w0 r E.S := by
  unfold indexT at hr
  split at hr
  case h_2 => cases hr
  rename_i ik i hi
  have hiv := (hf.ev io).toV _ _ (.int ik i) (by rw [hi]; rfl)
  split at hr
  · rename_i s hs
    have hxv := (hf.ev xo).toV _ _ (.string s) (by rw [hs]; rfl)
    split at hr
    case h_2 => cases hr
    rename_i hu
    split at hr
    case isFalse => cases hr
    rename_i h0
    obtain ⟨b, hb, rfl⟩ := Option.map_eq_some_iff.1 hr
    refine Gives.pure h (v := .int .u8 b.toNat) ?_ (.v _)
    simp only [execOp, ho, hiv, hxv, Sem.run_bind, Instr.index, asIntOf, Sem.run_pure, Result.andThen_ok, run_underlying hu, h0, if_true, hb]
  · rename_i ts hts
    split at hr
    case h_2 => cases hr
    rename_i m e harr
    split at hr
    case h_2 => cases hr
    rename_i sz agg hsz hagg
    split at hr
    case isFalse => cases hr
    rename_i hb
    have hx := hf.ev xo
    rw [hts] at hx
    generalize hval : a.eval xo = val at hx
    cases hx with
    | agg hs hh =>
      rename_i vs
      have hle : i.toNat * sz + (if agg then sz else 1) ≤ vs.size := by
        cases agg with
        | true =>
          simp only [if_true] at hr ⊢
          split at hr
          · omega
          · cases hr
        | false => simp only [Bool.false_eq_true, if_false] at hr ⊢; have := (List.getElem?_eq_some_iff.1 hr).1; omega
      refine Gives.pure h (v := if agg then .agg (vs.extract (i.toNat * sz) (i.toNat * sz + sz)) else vs.getD (i.toNat * sz) undef) ?_ ?_
      · simp only [execOp, ho, hval, hiv, Sem.run_bind, Instr.index, asIntOf, Sem.run_pure, Result.andThen_ok, run_underlying (arrT_run harr)]
        rw [if_pos hb]
        simp only [Sem.run_bind, szT_run hsz, Result.andThen_ok, run_part hagg hsz vs _ hle]
      · cases agg with
        | true =>
          simp only [if_true] at hr ⊢
          split at hr
          · rename_i hl; cases hr; exact agg_part hs hh hl
          · cases hr
        | false => simp only [Bool.false_eq_true, if_false] at hr ⊢; exact hh _ _ hr
  · cases hr

/-! ### len -/
def lenT (P : Program) (S : Store) (t : TypeId) (x : T) : Option T :=
  match x with
  | .v (.string s) => match P.underlying t with
    | some .string => some (.v (.int .i64 s.size))
    | _ => none
  | .v (.slice none 0 0) => (elemT P t).map fun _ => .v (.int .i64 0)
  | .sl false _ n _ _ => (elemT P t).map fun _ => .v (.int .i64 n)
  | .ref r p _ n => if (S.at false r p).isSome then (elemT P t).map fun _ => .v (.int .i64 n) else none
  | _ => none

theorem len_gives {P : Program} {o : Oper} {t : TypeId} {xo : Operand} (ho : o.op = .call { callee := .builtin .len, args := #[xo], argTypes := #[t] }) {a : Act} {E : Env} {w0 : World} {n : Nat} {fr : Nat → T}
    (h : Inv E w0) (hf : FR E n fr a) {r : T} (hr : lenT P E.S t (ev fr xo) = some r) : Gives P o a E w0 r E.S := by
  have fin : ∀ (m : Int), (Builtin.len_ #[t] o.type #[a.eval xo]).run P E.w = .ok (.int .i64 m) E.w → r = .v (.int .i64 m) → Gives P o a E w0 r E.S := by
    intro m hm hrm
    subst hrm
    refine Gives.pure h (v := .int .i64 m) ?_ (.v _)
    simp only [execOp, ho, resolve, invoke, builtin, Sem.run_bind, Sem.run_pure, Result.andThen_ok, List.map_toArray, List.map_cons, List.map_nil, hm]
  unfold lenT at hr
  split at hr
  · rename_i s hs
    have hxv := (hf.ev xo).toV _ _ (.string s) (by rw [hs]; rfl)
    split at hr
    case h_2 => cases hr
    rename_i hu
    cases hr
    refine fin _ ?_ rfl
    rw [hxv]
    simp [Builtin.len_, run_underlying hu, goInt]
  · rename_i hs
    have hxv := (hf.ev xo).toV _ _ (.slice none 0 0) (by rw [hs]; rfl)
    obtain ⟨e, he, rfl⟩ := Option.map_eq_some_iff.1 hr
    refine fin _ ?_ rfl
    rw [hxv]
    simp [Builtin.len_, run_underlying (elemT_run he), goInt]
  · rename_i k m e' cs hs
    obtain ⟨e, he, rfl⟩ := Option.map_eq_some_iff.1 hr
    have hx := hf.ev xo
    rw [hs] at hx
    generalize hval : a.eval xo = val at hx
    cases hx with
    | sl hfz =>
      cases hfz with
      | sl b off f hn hc ha hcell hrec =>
        refine fin _ ?_ rfl
        rw [hval]
        simp [Builtin.len_, run_underlying (elemT_run he), goInt]
  · rename_i r' p' off' m hs
    split at hr
    case isFalse => cases hr
    rename_i hsome
    obtain ⟨e, he, rfl⟩ := Option.map_eq_some_iff.1 hr
    obtain ⟨⟨e1, cs1⟩, hy⟩ := Option.isSome_iff_exists.1 hsome
    have hx := hf.ev xo
    rw [hs] at hx
    generalize hval : a.eval xo = val at hx
    cases hx with
    | ref hr hh =>
      obtain ⟨cap, arr, ty, mk, h1, h2, h3, rfl⟩ := hh _ _ hy
      refine fin _ ?_ rfl
      rw [hval]
      simp [Builtin.len_, run_underlying (elemT_run he), goInt]
  · cases hr

/-! ### min, max of whole numbers -/
def minMaxT (mx : Bool) : List T → Option T
  | [] => none
  | .v (.int k x) :: ts => ts.foldlM (fun (acc t : T) => match acc, t with
      | .v (.int k x), .v (.int _ y) => some (.v (.int k (if (if mx then y > x else y < x) then y else x)))
      | _, _ => none) (.v (.int k x))
  | _ => none

theorem minMax_gives {P : Program} {o : Oper} {mx : Bool} {args : Array Operand} {tys : Array TypeId} (ho : o.op = .call { callee := .builtin (if mx then .max else .min), args := args, argTypes := tys }) {a : Act} {E : Env} {w0 : World} {n : Nat} {fr : Nat → T}
    (h : Inv E w0) (hf : FR E n fr a) {r : T} (hr : minMaxT mx (args.toList.map (ev fr)) = some r) : Gives P o a E w0 r E.S := by
  have key : ∀ (l : List Operand) (k : IntKind) (x : Int), (l.map (ev fr)).foldlM (fun (acc t : T) => match acc, t with
      | .v (.int k x), .v (.int _ y) => some (.v (.int k (if (if mx then y > x else y < x) then y else x)))
      | _, _ => none) (.v (.int k x)) = some r → ∃ z, r = .v (.int k z) ∧ ((l.map a.eval).foldlM (if mx then Builtin.max2 else Builtin.min2) (.int k x)).run P E.w = .ok (.int k z) E.w := by
    intro l
    induction l with
    | nil => intro k x hx; simp only [List.map_nil, List.foldlM_nil] at hx; cases hx; exact ⟨x, rfl, rfl⟩
    | cons y l ih =>
      intro k x hx
      rw [List.map_cons, List.foldlM_cons] at hx
      obtain ⟨acc, h1, h2⟩ := Option.bind_eq_some_iff.1 hx
      split at h1
      case h_2 => cases h1
      rename_i k1 x1 k2 y1 e1 e2
      cases e1
      cases h1
      have hyv := (hf.ev y).toV _ _ (.int k2 y1) (by rw [e2]; rfl)
      obtain ⟨z, hz, hrun⟩ := ih _ _ h2
      refine ⟨z, hz, ?_⟩
      rw [List.map_cons, List.foldlM_cons, Sem.run_bind, hyv]
      cases mx with
      | true =>
        simp only [if_true, Builtin.max2, Sem.run_pure, Result.andThen_ok] at hrun ⊢
        exact hrun
      | false =>
        simp only [Bool.false_eq_true, if_false, Builtin.min2, Sem.run_pure, Result.andThen_ok] at hrun ⊢
        exact hrun
  cases hl : args.toList with
  | nil => rw [hl] at hr; simp [minMaxT] at hr
  | cons x l =>
    rw [hl, List.map_cons] at hr
    unfold minMaxT at hr
    split at hr
    · rename_i he; cases he
    · rename_i k x1 ts he
      simp only [List.cons.injEq] at he
      obtain ⟨e1, rfl⟩ := he
      have hxv := (hf.ev x).toV _ _ (.int k x1) (by rw [e1]; rfl)
      obtain ⟨z, rfl, hrun⟩ := key l k x1 hr
      refine Gives.pure h (v := .int k z) ?_ (.v _)
      have e3 : (args.map a.eval).toList = a.eval x :: l.map a.eval := by rw [Array.toList_map, hl]; rfl
      cases mx with
      | true =>
        simp only [if_true] at ho hrun
        simp only [execOp, ho, resolve, invoke, builtin, Sem.run_bind, Sem.run_pure, Result.andThen_ok, Builtin.max_, e3, hxv, hrun]
      | false =>
        simp only [Bool.false_eq_true, if_false] at ho hrun
        simp only [execOp, ho, resolve, invoke, builtin, Sem.run_bind, Sem.run_pure, Result.andThen_ok, Builtin.min_, e3, hxv, hrun]
    · cases hr

end Go.TL

/- Cuts and conversions on trees, function values. No conditions. -/
namespace Go.TL
set_option linter.unusedSimpArgs false
open Go.RowKit

theorem FzR.v_eq {w : World} {ok : Nat → Prop} {x y : Value} (h : FzR w ok (.v x) y) : y = x := by cases h; rfl

def intT : T → Option Int
  | .v (.int _ i) => some i
  | _ => none

/-- The bounds of a cut: from, to. -/
def boundsT (n : Nat) (lo hi : Option T) : Option (Nat × Nat) :=
  match (match hi with | some t => intT t | none => some (n : Int)), (match lo with | some t => intT t | none => some 0) with
  | some h, some l => if 0 ≤ l ∧ l ≤ h ∧ h ≤ n then some (l.toNat, h.toNat) else none
  | _, _ => none

def sliceT (P : Program) (S : Store) (t : TypeId) (x : T) (lo hi : Option T) : Option T :=
  match x with
  | .v (.string s) => match P.underlying t with
    | some .string => (boundsT s.size lo hi).map fun b => .v (.string (s.extract b.1 b.2))
    | _ => none
  | .v (.slice none 0 0) => match elemT P t with
    | some e => match szT P e with
      | some _ => (boundsT 0 lo hi).map fun _ => .v (.slice none 0 0)
      | none => none
    | none => none
  | .sl false k n e' cs => match elemT P t with
    | some e => match szT P e with
      | some sz => if e' = sz then (boundsT n lo hi).map fun b => .sl false k (b.2 - b.1) e' ((cs.drop (b.1 * e')).take ((b.2 - b.1) * e')) else none
      | none => none
    | none => none
  | .ref r p off n => match elemT P t with
    | some e => match szT P e, S.at false r p with
      | some sz, some (e', _) => if e' = sz then (boundsT n lo hi).map fun b => if b.1 = 0 then .ref r p off b.2 else if b.1 < b.2 then .ref r p (off + b.1 * e') (b.2 - b.1) else .sl false 0 0 e' [] else none
      | _, _ => none
    | none => none
  | _ => none

theorem intT_ev {E : Env} {n : Nat} {fr : Nat → T} {a : Act} (hf : FR E n fr a) {x : Operand} {i : Int} (h : intT (ev fr x) = some i) : ∃ k, a.eval x = .int k i := by
  unfold intT at h
  split at h
  · rename_i k j hj; cases h; exact ⟨k, (hf.ev x).toV _ _ (.int k i) (by rw [hj]; rfl)⟩
  · cases h

theorem bounds_run {P : Program} {E : Env} {n : Nat} {fr : Nat → T} {a : Act} (hf : FR E n fr a) {m cap : Nat} (hmc : m ≤ cap) {lo hi : Option Operand} {b : Nat × Nat} (h : boundsT m (lo.map (ev fr)) (hi.map (ev fr)) = some b) (isSlice : Bool) (w : World) :
    (Instr.sliceBounds isSlice m cap (lo.map a.eval) (hi.map a.eval) none).run P w = .ok (b.1, b.2, cap) w ∧ b.1 ≤ b.2 ∧ b.2 ≤ m := by
  unfold boundsT at h
  split at h
  case h_2 => cases h
  rename_i h1 l1 hh hl
  split at h
  case isFalse => cases h
  rename_i hb
  cases h
  refine ⟨?_, by show l1.toNat ≤ h1.toNat; omega, by show h1.toNat ≤ m; omega⟩
  unfold Instr.sliceBounds
  cases hi with
  | none =>
    simp only [Option.map_none, Option.some.injEq] at hh
    subst hh
    cases lo with
    | none =>
      simp only [Option.map_none, Option.some.injEq] at hl
      subst hl
      simp
    | some x =>
      obtain ⟨k, hk⟩ := intT_ev hf (x := x) hl
      have hb' : 0 ≤ l1 ∧ l1 ≤ (m : Int) := by omega
      simp [hk, Instr.sliceBound, asIntOf, hb']
  | some y =>
    obtain ⟨k, hk⟩ := intT_ev hf (x := y) hh
    have hb2 : 0 ≤ h1 ∧ h1 ≤ (cap : Int) := by omega
    cases lo with
    | none =>
      simp only [Option.map_none, Option.some.injEq] at hl
      subst hl
      simp [hk, Instr.sliceBound, asIntOf, hb2]
    | some x =>
      obtain ⟨k', hk'⟩ := intT_ev hf (x := x) hl
      have hb3 : 0 ≤ l1 ∧ l1 ≤ (h1.toNat : Int) := by omega
      have hb4 : 0 ≤ l1 ∧ l1 ≤ h1 := by omega
      simp [hk, hk', Instr.sliceBound, asIntOf, hb2, hb4]
      omega

theorem run_sliceAt {P : Program} {t e : TypeId} {sz : Nat} (he : elemT P t = some e) (hs : szT P e = some sz) (A : Option Addr) (n cap : Nat) (lo hi : Option Value) (l h m : Nat) (w : World)
    (hb : (Instr.sliceBounds true n cap lo hi none).run P w = .ok (l, h, m) w) :
    (Instr.sliceAt t (.slice A n cap) lo hi none).run P w = .ok (.slice (if m = l then A else A.map (·.add (l * sz))) (h - l) (m - l)) w := by
  have hu := elemT_run he
  simp [Instr.sliceAt, Instr.slice, run_underlying hu, hb, szT_run hs]

theorem FzR.cut {w : World} {ok : Nat → Prop} {o : Bool} {k n e : Nat} {cs : List T} {A : Option Addr} {cap : Nat} (h : FzR w ok (.sl o k n e cs) (.slice A n cap)) {l hh : Nat} (h1 : l ≤ hh) (h2 : hh ≤ n) :
    FzR w ok (.sl o k (hh - l) e ((cs.drop (l * e)).take ((hh - l) * e))) (.slice (if cap = l then A else A.map (·.add (l * e))) (hh - l) (cap - l)) := by
  cases h with
  | sl b off f hn hc ha hcell hrec =>
    have hle : l * e + (hh - l) * e ≤ n * e := by rw [← Nat.add_mul]; exact Nat.mul_le_mul_right _ (by omega)
    have hlen : ((cs.drop (l * e)).take ((hh - l) * e)).length = (hh - l) * e := by simp; omega
    refine .sl b (off + l * e) (fun j => f (l * e + j)) hlen (by omega) ?_ ?_ ?_
    · by_cases h0 : ((cs.drop (l * e)).take ((hh - l) * e)) = []
      · exact .inl h0
      · refine .inr ?_
        have hpos : 0 < (hh - l) * e := by rw [← hlen]; exact List.length_pos_iff.2 h0
        have hlt : l < hh := by
          rcases Nat.lt_or_ge l hh with h | h
          · exact h
          · rw [Nat.sub_eq_zero_of_le h] at hpos; simp at hpos
        rcases ha with ha | ⟨rfl, hok⟩
        · subst ha; simp at h0
        · rw [if_neg (by omega)]
          exact ⟨by simp [addr_add], hok⟩
    · intro j c hj
      have hjl : j < (hh - l) * e := by rw [← hlen]; exact (List.getElem?_eq_some_iff.1 hj).1
      rw [List.getElem?_take_of_lt hjl, List.getElem?_drop] at hj
      rw [Nat.add_assoc]
      exact hcell _ _ hj
    · intro j c hj
      have hjl : j < (hh - l) * e := by rw [← hlen]; exact (List.getElem?_eq_some_iff.1 hj).1
      rw [List.getElem?_take_of_lt hjl, List.getElem?_drop] at hj
      exact hrec _ _ hj

theorem slice_gives {P : Program} {o : Oper} {t : TypeId} {xo : Operand} {lo hi : Option Operand} (ho : o.op = .slice t xo lo hi none) {a : Act} {E : Env} {w0 : World} {n : Nat} {fr : Nat → T}
    (h : Inv E w0) (hf : FR E n fr a) {r : T} (hr : sliceT P E.S t (ev fr xo) (lo.map (ev fr)) (hi.map (ev fr)) = some r) : Gives P o a E w0 r E.S := by
  unfold sliceT at hr
  split at hr
  · rename_i s hs
    have hxv := (hf.ev xo).toV _ _ (.string s) (by rw [hs]; rfl)
    split at hr
    case h_2 => cases hr
    rename_i hu
    obtain ⟨b, hb, rfl⟩ := Option.map_eq_some_iff.1 hr
    obtain ⟨h1, _, _⟩ := bounds_run (P := P) hf (Nat.le_refl _) hb false E.w
    refine Gives.pure h (v := .string (s.extract b.1 b.2)) ?_ (.v _)
    simp only [execOp, ho, hxv, Sem.run_bind, Instr.sliceAt, run_underlying hu, Result.andThen_ok, Instr.slice, Option.map_none]
    simp [h1]
  · rename_i hs
    have hxv := (hf.ev xo).toV _ _ (.slice none 0 0) (by rw [hs]; rfl)
    split at hr
    case h_2 => cases hr
    rename_i e he
    split at hr
    case h_2 => cases hr
    rename_i sz hsz
    obtain ⟨b, hb, rfl⟩ := Option.map_eq_some_iff.1 hr
    obtain ⟨h1, h2, h3⟩ := bounds_run (P := P) hf (Nat.le_refl _) hb true E.w
    have e1 : b.1 = 0 := by omega
    have e2 : b.2 = 0 := by omega
    refine Gives.pure h (v := .slice none 0 0) ?_ (.v _)
    simp only [execOp, ho, hxv, Sem.run_bind, Option.map_none, run_sliceAt he hsz none 0 0 _ _ _ _ _ _ h1, Result.andThen_ok, Sem.run_pure, e1, e2]
    rfl
  · rename_i k m e' cs hs
    split at hr
    case h_2 => cases hr
    rename_i e he
    split at hr
    case h_2 => cases hr
    rename_i sz hsz
    split at hr
    case isFalse => cases hr
    rename_i hee
    subst hee
    obtain ⟨b, hb, rfl⟩ := Option.map_eq_some_iff.1 hr
    have hx := hf.ev xo
    rw [hs] at hx
    generalize hval : a.eval xo = val at hx
    cases hx with
    | sl hfz =>
      have hfz' := hfz
      cases hfz with
      | sl b1 off f hn hc ha hcell hrec =>
        rename_i A cap
        obtain ⟨h1, h2, h3⟩ := bounds_run (P := P) hf hc hb true E.w
        refine Gives.pure h (v := .slice (if cap = b.1 then A else A.map (·.add (b.1 * e'))) (b.2 - b.1) (cap - b.1)) ?_ (.sl (hfz'.cut h2 h3))
        simp only [execOp, ho, hval, Sem.run_bind, Option.map_none, run_sliceAt he hsz A m cap _ _ _ _ _ _ h1, Result.andThen_ok, Sem.run_pure]
  · rename_i r' p' off' m hs
    split at hr
    case h_2 => cases hr
    rename_i e he
    split at hr
    case h_2 => cases hr
    rename_i sz e' cs' hsz hat
    split at hr
    case isFalse => cases hr
    rename_i hee
    subst hee
    obtain ⟨b, hb, rfl⟩ := Option.map_eq_some_iff.1 hr
    have hx := hf.ev xo
    rw [hs] at hx
    generalize hval : a.eval xo = val at hx
    cases hx with
    | ref hr hh =>
      obtain ⟨cap, arr, ty, mk, g1, g2, g3, rfl⟩ := hh _ _ hat
      obtain ⟨h1, h2, h3⟩ := bounds_run (P := P) hf g2 hb true E.w
      have hrun := run_sliceAt (P := P) he hsz (some ⟨E.φ r' p', off', none⟩) m cap _ _ _ _ _ _ h1
      have hex : (execOp a.eval o).run P E.w = .ok (.value (.slice (if cap = b.1 then some ⟨E.φ r' p', off', none⟩ else (some ⟨E.φ r' p', off', none⟩ : Option Addr).map (·.add (b.1 * e'))) (b.2 - b.1) (cap - b.1))) E.w := by
        simp only [execOp, ho, hval, Sem.run_bind, Option.map_none, hrun, Result.andThen_ok, Sem.run_pure]
      refine Gives.pure h hex ?_
      by_cases hb0 : b.1 = 0
      · rw [if_pos hb0]
        refine .ref hr fun e1 cs1 hat1 => ?_
        rw [hat] at hat1
        cases hat1
        refine ⟨cap, arr, ty, mk, g1, by omega, g3, ?_⟩
        rw [hb0]
        split <;> simp [addr_add]
      · rw [if_neg hb0]
        by_cases hlt : b.1 < b.2
        · rw [if_pos hlt]
          refine .ref hr fun e1 cs1 hat1 => ?_
          rw [hat] at hat1
          cases hat1
          refine ⟨cap - b.1, arr, ty, mk, g1, by omega, ?_, ?_⟩
          · rw [Nat.add_assoc, ← Nat.add_mul, show b.1 + (cap - b.1) = cap by omega]; exact g3
          · rw [if_neg (by omega)]; simp [addr_add]
        · rw [if_neg hlt]
          have : b.2 - b.1 = 0 := by omega
          rw [this]
          exact .sl (.sl 0 0 (fun _ => undef) (by simp) (by omega) (.inl rfl) (fun j c hj => by simp at hj) (fun j c hj => by simp at hj))
  · cases hr

/-! ### conversions -/
def numsT : List T → Option (List Int)
  | [] => some []
  | .v (.int .u8 n) :: ts => (numsT ts).map (n :: ·)
  | _ => none

theorem numsT_map : ∀ (ts : List T) (ns : List Int), numsT ts = some ns → ts = ns.map fun n => .v (.int .u8 n)
  | [], ns, h => by simp only [numsT, Option.some.injEq] at h; subst h; rfl
  | t :: ts, ns, h => by
    unfold numsT at h
    split at h
    · rename_i hh; cases hh
    · rename_i n ts' hh
      cases hh
      obtain ⟨l, hl, rfl⟩ := Option.map_eq_some_iff.1 h
      rw [numsT_map ts l hl]; rfl
    · cases h

/-- The text of a row of bytes. -/
def strOfT (ns : List Int) : ByteArray := ⟨(ns.map fun n => UInt8.ofNat n.toNat).toArray⟩

def byteSlice (P : Program) (t : TypeId) : Bool :=
  match elemT P t with
  | some e => match P.underlying e with
    | some (.int .u8) => true
    | _ => false
  | none => false

theorem byteSlice_run {P : Program} {t : TypeId} (h : byteSlice P t = true) : ∃ e, P.underlying t = some (.slice e) ∧ P.underlying e = some (.int .u8) := by
  unfold byteSlice at h
  split at h
  case h_2 => cases h
  rename_i e he
  split at h
  case h_2 => cases h
  rename_i hu
  exact ⟨e, elemT_run he, hu⟩

def convT (P : Program) (S : Store) (src dst : TypeId) (x : T) : Option (T × Store) :=
  match x with
  | .v (.int _ n) => match P.underlying src, P.underlying dst with
    | some _, some (.int k) => some (.v (.int k (k.wrap n)), S)
    | _, _ => none
  | .v (.string s) => match P.underlying src, P.underlying dst with
    | some _, some .string => some (.v (.string s), S)
    | some _, some (.slice e) => match P.underlying e with
      | some (.int .u8) => some (.ref S.length [] 0 s.size, S ++ [⟨1, true, s.data.toList.map fun b => .v (.int .u8 b.toNat)⟩])
      | _ => none
    | _, _ => none
  | .v (.slice none _ _) => if byteSlice P src = true then match P.underlying dst with
    | some .string => some (.v (.string ByteArray.empty), S)
    | _ => none else none
  | .sl false _ n 1 cs => if byteSlice P src = true then match P.underlying dst, numsT cs with
    | some .string, some ns => if 0 < n then some (.v (.string (strOfT ns)), S) else some (.v (.string ByteArray.empty), S)
    | _, _ => none else none
  | .ref r p off n => if byteSlice P src = true then match P.underlying dst, S.at false r p with
    | some .string, some (_, cs) => match numsT ((cs.drop off).take n) with
      | some ns => if ns.length = n then some (.v (.string (strOfT ns)), S) else none
      | none => none
    | _, _ => none else none
  | _ => none

theorem strOfNums_eq (ns : List Int) : strOfNums ns = strOfT ns := rfl

theorem conv_gives {P : Program} {o : Oper} {src dst : TypeId} {xo : Operand} (ho : o.op = .convert src dst xo) {a : Act} {E : Env} {w0 : World} {n : Nat} {fr : Nat → T}
    (h : Inv E w0) (hf : FR E n fr a) {r : T} {S' : Store} (hr : convT P E.S src dst (ev fr xo) = some (r, S')) : Gives P o a E w0 r S' := by
  have fin : ∀ (v : Value), (convert src dst (a.eval xo)).run P E.w = .ok v E.w → TR E r v → S' = E.S → Gives P o a E w0 r S' := by
    intro v hv ht hS
    subst hS
    refine Gives.pure h (v := v) ?_ ht
    simp only [execOp, ho, Sem.run_bind, hv, Result.andThen_ok, Sem.run_pure]
  unfold convT at hr
  split at hr
  · rename_i k m hs
    have hxv := (hf.ev xo).toV _ _ (.int k m) (by rw [hs]; rfl)
    split at hr
    case h_2 => cases hr
    rename_i u k' hu hd
    cases hr
    refine fin _ ?_ (.v _) rfl
    rw [hxv]
    simp [convert, run_underlying hu, run_underlying hd, Conv.intToInt]
  · rename_i s hs
    have hxv := (hf.ev xo).toV _ _ (.string s) (by rw [hs]; rfl)
    split at hr
    · rename_i u hu hd
      cases hr
      refine fin _ ?_ (.v _) rfl
      rw [hxv]
      simp [convert, run_underlying hu, run_underlying hd]
    · rename_i u e hu hd
      split at hr
      case h_2 => cases hr
      rename_i he
      cases hr
      have hrun := Lib.run_convert_string_bytes (P := P) E.w src dst e s hu hd he
      have hsz := Lib.bytesWorld_size E.w e s
      have hm : Made E.w (Lib.bytesWorld E.w e s) (Lib.bytesCells E.w e s) e ((Lib.bytesCells E.w e s).size, (Lib.bytesCells E.w e s).size + 1) :=
        ⟨rfl, rfl, rfl, hsz, fun b hb => Lib.bytesWorld_at_old _ _ _ _ hb, Lib.bytesWorld_at_new _ _ _⟩
      have hcap : s.size ≤ grownCap E.w s.size 0 e := grownCap_ge E.w s.size 0 e
      have hcs : (Lib.bytesCells E.w e s).size = grownCap E.w s.size 0 e := by
        have : s.data.size = s.size := rfl
        simp [Lib.bytesCells]; omega
      refine Inv.new h hm 1 (fun o ho hh => by have := hh.1; omega) _ ?_ ?_ ?_ (v := .slice (some ⟨E.w.heap.size, 0, none⟩) s.size (grownCap E.w s.size 0 e)) ?_ (ref_new E hm 1 _ _ _ hcap (by omega))
      · refine List.all_eq_true.2 fun c hc => ?_
        obtain ⟨b, _, rfl⟩ := List.mem_map.1 hc
        rfl
      · simp [Lib.bytesCells]
      · intro j c hj
        rw [List.getElem?_map] at hj
        obtain ⟨b, hb, rfl⟩ := Option.map_eq_some_iff.1 hj
        have hlt : j < s.data.size := by rw [Array.getElem?_toList] at hb; exact (Array.getElem?_eq_some_iff.1 hb).1
        have : (Lib.bytesCells E.w e s).getD j undef = .int .u8 b.toNat := by
          rw [Array.getD_eq_getD_getElem?, Lib.bytesCells, Array.getElem?_append_left (by simpa using hlt), Array.getElem?_map]
          rw [Array.getElem?_toList] at hb
          rw [hb]; rfl
        rw [this]
        exact ⟨.v _, rfl⟩
      · simp only [execOp, ho, hxv, Sem.run_bind, hrun, Result.andThen_ok, Sem.run_pure]
    · cases hr
  · rename_i m c hs
    have hxv := (hf.ev xo).toV _ _ (.slice none m c) (by rw [hs]; rfl)
    split at hr
    case isFalse => cases hr
    rename_i hbs
    obtain ⟨e, he1, he2⟩ := byteSlice_run hbs
    split at hr
    case h_2 => cases hr
    rename_i hd
    cases hr
    refine fin _ ?_ (.v _) rfl
    rw [hxv]
    exact run_convert_bytes_nil E.w src e he1 he2 m c dst hd
  · rename_i k m cs hs
    split at hr
    case isFalse => cases hr
    rename_i hbs
    obtain ⟨e, he1, he2⟩ := byteSlice_run hbs
    split at hr
    case h_2 => cases hr
    rename_i ns hd hns
    have hmap := numsT_map cs ns hns
    have hx := hf.ev xo
    rw [hs] at hx
    generalize hval : a.eval xo = val at hx
    cases hx with
    | sl hfz =>
      cases hfz with
      | sl b off f hn hc ha hcell hrec =>
        rename_i A cap
        have hnl : ns.length = m := by rw [hmap] at hn; simpa using hn
        split at hr
        · rename_i hpos
          cases hr
          rcases ha with ha | ⟨rfl, hok⟩
          · subst ha; simp at hn; omega
          · refine fin _ ?_ (.v _) rfl
            rw [hval, ← strOfNums_eq]
            refine run_convert_bytes_arg E.w src e he1 he2 b off m cap ns hnl (fun i hi => ?_) dst hd
            have hci : cs[i]? = some (.v (.int .u8 (ns.getD i 0))) := by
              rw [hmap, List.getElem?_map, List.getElem?_eq_getElem (by omega), List.getD_eq_getElem?_getD, List.getElem?_eq_getElem (by omega)]; rfl
            rw [hcell i _ hci]
            rw [(hrec i _ hci).v_eq]
        · rename_i hpos
          cases hr
          have hm0 : m = 0 := by omega
          subst hm0
          refine fin _ ?_ (.v _) rfl
          rw [hval, run_convert_bytes_string E.w src dst e _ _ _ he1 he2 hd]
          cases A with
          | none => simp [Conv.bytesToString]
          | some ad =>
            have := run_bytesToString (P := P) E.w ad 0 cap [] (by simp [loadCells, loadCellsFrom])
            simpa using this
  · rename_i r' p' off' m hs
    split at hr
    case isFalse => cases hr
    rename_i hbs
    obtain ⟨e, he1, he2⟩ := byteSlice_run hbs
    split at hr
    case h_2 => cases hr
    rename_i e1 cs hd hat
    split at hr
    case h_2 => cases hr
    rename_i ns hns
    split at hr
    case isFalse => cases hr
    rename_i hnl
    cases hr
    have hmap := numsT_map _ ns hns
    have hx := hf.ev xo
    rw [hs] at hx
    generalize hval : a.eval xo = val at hx
    cases hx with
    | ref hr hh =>
      obtain ⟨cap, arr, ty, mk, g1, g2, g3, rfl⟩ := hh _ _ hat
      obtain ⟨arr2, ty2, mk2, k1, k2, k3, k4, k5⟩ := h.blk r' p' e1 cs (Store.at_any hat)
      rw [g1] at k1
      cases k1
      refine fin _ ?_ (.v _) rfl
      rw [hval, ← strOfNums_eq]
      refine run_convert_bytes_arg E.w src e he1 he2 _ _ m cap ns hnl (fun i hi => ?_) dst hd
      have hci : cs[off' + i]? = some (.v (.int .u8 (ns.getD i 0))) := by
        have e3 : ((cs.drop off').take m)[i]? = some (.v (.int .u8 (ns.getD i 0))) := by
          rw [hmap, List.getElem?_map, List.getElem?_eq_getElem (by omega), List.getD_eq_getElem?_getD, List.getElem?_eq_getElem (by omega)]; rfl
        rw [List.getElem?_take_of_lt hi, List.getElem?_drop] at e3
        exact e3
      have hlt := (List.getElem?_eq_some_iff.1 hci).1
      have hcr := k5 _ _ hci
      rw [cell_of_row _ _ _ _ _ _ g1, Array.getElem?_eq_getElem (by omega)]
      rw [Array.getD_eq_getD_getElem?, Array.getElem?_eq_getElem (by omega)] at hcr
      generalize hu : arr[off' + i] = u at hcr ⊢
      simp only [Option.getD_some] at hcr
      cases hcr
      rfl
  · cases hr

/-! ### function values -/
theorem makeFunc_gives {P : Program} {o : Oper} {f : FuncId} {caps : Array Operand} (ho : o.op = .makeFunc (.func f) #[] caps) {a : Act} {E : Env} {w0 : World} {n : Nat} {fr : Nat → T}
    (h : Inv E w0) (hf : FR E n fr a) : Gives P o a E w0 (.clo f (caps.toList.map (ev fr))) E.S := by
  refine Gives.pure h (v := .func (.func f) #[] (caps.map a.eval)) ?_ (.clo (by simp) fun i t ht => ?_)
  · simp only [execOp, ho, Sem.run_bind, Instr.makeFunc, Sem.run_pure, Result.andThen_ok, Array.map_empty]
  · rw [List.getElem?_map] at ht
    obtain ⟨x, hx, rfl⟩ := Option.map_eq_some_iff.1 ht
    rw [Array.getElem?_toList] at hx
    rw [Array.getD_eq_getD_getElem?, Array.getElem?_map, hx]
    exact hf.ev x

end Go.TL

/- Stores on trees. No conditions. -/
namespace Go.TL
set_option linter.unusedSimpArgs false
open Go.RowKit

theorem Wrote.setCell {w : World} {b o : Nat} {v : Value} : Wrote w (w.setCell ⟨b, o, none⟩ v) b := by
  refine ⟨rfl, rfl, rfl, by simp [World.setCell], fun k hk => Below.heap_setCell _ _ _ _ hk, fun arr ty mk h => ⟨arr.setIfInBounds o v, ?_, by simp⟩⟩
  simp only [World.setCell, Array.getElem?_modify, if_true, h, Option.map_some]
  rfl

theorem heap_setCell_same {w : World} {b o : Nat} {v : Value} {arr : Array Value} {ty : TypeId} {mk : Nat × Nat} (h : w.heap[b]? = some (.cells arr ty mk)) :
    (w.setCell ⟨b, o, none⟩ v).heap[b]? = some (.cells (arr.setIfInBounds o v) ty mk) := by
  simp only [World.setCell, Array.getElem?_modify, if_true, h, Option.map_some]
  rfl

theorem updAt_comp (f g : List T → List T) : ∀ (p : List Nat) (cs : List T), updAt g (updAt f cs p) p = updAt (fun c => g (f c)) cs p
  | [], _ => rfl
  | c :: p, cs => by
    cases hc : cs[c]? with
    | none => simp only [updAt, hc]
    | some x =>
      have hlt := (List.getElem?_eq_some_iff.1 hc).1
      match x, hc with
      | .sl true k n e cs', hc =>
        simp only [updAt, hc, List.getElem?_set_self hlt, List.set_set, updAt_comp f g p cs']
      | .sl false _ _ _ _, hc => simp only [updAt, hc]
      | .v _, hc => simp only [updAt, hc]
      | .ref _ _ _ _, hc => simp only [updAt, hc]
      | .ptr _ _ _, hc => simp only [updAt, hc]
      | .pz _ _ _, hc => simp only [updAt, hc]
      | .agg _, hc => simp only [updAt, hc]
      | .tup _, hc => simp only [updAt, hc]
      | .clo _ _, hc => simp only [updAt, hc]
      | .dead, hc => simp only [updAt, hc]

theorem Store.upd_upd (S : Store) (r : Nat) (p : List Nat) (f g : List T → List T) : (S.upd r p f).upd r p g = S.upd r p (fun c => g (f c)) := by
  unfold Store.upd
  cases hx : S[r]? with
  | none => simp [hx]
  | some x =>
    have hlt := (List.getElem?_eq_some_iff.1 hx).1
    simp only [List.getElem?_set_self hlt, List.set_set, updAt_comp]

theorem updAt_id : ∀ (p : List Nat) (cs : List T), updAt (fun c => c) cs p = cs
  | [], _ => rfl
  | c :: p, cs => by
    cases hc : cs[c]? with
    | none => simp only [updAt, hc]
    | some x =>
      match x, hc with
      | .sl true k n e cs', hc =>
        simp only [updAt, hc, updAt_id p cs']
        refine List.ext_getElem? fun i => ?_
        rw [List.getElem?_set]
        split
        · rename_i e; subst e; rw [hc, if_pos (List.getElem?_eq_some_iff.1 hc).1]
        · rfl
      | .sl false _ _ _ _, hc => simp only [updAt, hc]
      | .v _, hc => simp only [updAt, hc]
      | .ref _ _ _ _, hc => simp only [updAt, hc]
      | .ptr _ _ _, hc => simp only [updAt, hc]
      | .pz _ _ _, hc => simp only [updAt, hc]
      | .agg _, hc => simp only [updAt, hc]
      | .tup _, hc => simp only [updAt, hc]
      | .clo _ _, hc => simp only [updAt, hc]
      | .dead, hc => simp only [updAt, hc]

theorem Store.upd_id (S : Store) (r : Nat) (p : List Nat) : S.upd r p (fun c => c) = S := by
  unfold Store.upd
  cases hx : S[r]? with
  | none => rfl
  | some x =>
    simp only [updAt_id]
    refine List.ext_getElem? fun i => ?_
    rw [List.getElem?_set]
    split
    · rename_i e; subst e; rw [hx, if_pos (List.getElem?_eq_some_iff.1 hx).1]
    · rfl

/-- The node itself behind an update. -/
theorem cellsAt_updAt_self {any : Bool} {f : List T → List T} : ∀ (p : List Nat) (e : Nat) (cs : List T) (e0 : Nat) (cs0 : List T), cellsAt any e cs p = some (e0, cs0) → cellsAt any e (updAt f cs p) p = some (e0, f cs0)
  | [], e, cs, e0, cs0, h => by simp only [cellsAt, Option.some.injEq, Prod.mk.injEq] at h ⊢; obtain ⟨rfl, rfl⟩ := h; exact ⟨rfl, rfl⟩
  | c :: p, e, cs, e0, cs0, h => by
    unfold cellsAt at h
    split at h
    case h_2 => cases h
    rename_i k n e1 cs1 hc
    split at h
    case isFalse => cases h
    rename_i hk
    have hlt := (List.getElem?_eq_some_iff.1 hc).1
    have hu : updAt f cs (c :: p) = cs.set c (.sl true k n e1 (updAt f cs1 p)) := by
      show (match cs[c]? with | some (.sl true k n e cs') => cs.set c (.sl true k n e (updAt f cs' p)) | _ => cs) = _
      rw [hc]
    rw [hu]
    unfold cellsAt
    rw [List.getElem?_set_self hlt]
    simp only [hk, if_true]
    exact cellsAt_updAt_self p e1 cs1 e0 cs0 h

theorem Store.at_upd_self {any : Bool} {S : Store} {r : Nat} {p : List Nat} {f : List T → List T} {e0 : Nat} {cs0 : List T} (h : S.at any r p = some (e0, cs0)) : (S.upd r p f).at any r p = some (e0, f cs0) := by
  unfold Store.at Store.upd at *
  cases hx : S[r]? with
  | none => simp [hx] at h
  | some x =>
    have hlt := (List.getElem?_eq_some_iff.1 hx).1
    simp only [hx] at h
    split at h
    case isFalse => cases h
    rename_i hl
    simp only [List.getElem?_set_self hlt, hl, if_true]
    exact cellsAt_updAt_self p _ _ _ _ h

theorem set_noNew {e : Nat} {cs : List T} {j : Nat} {c : T} (hc : cellOk c = true) : ∀ any q2 x, q2 ≠ [] → cellsAt any e (cs.set j c) q2 = some x → cellsAt any e cs q2 = some x := by
  intro any q2 x hq h
  cases q2 with
  | nil => exact absurd rfl hq
  | cons i q =>
    unfold cellsAt at h ⊢
    rw [List.getElem?_set] at h
    by_cases e : j = i
    · subst e
      rw [if_pos rfl] at h
      split at h
      · rename_i k n e1 cs1 hh
        split at hh
        · cases hh; simp [cellOk] at hc
        · cases hh
      · cases h
    · rw [if_neg e] at h
      exact h

/-- One cell is written. -/
theorem store_one {E : Env} {w0 : World} (h : Inv E w0) {r : Nat} {p : List Nat} {e : Nat} {cs : List T} (hn : E.S.at false r p = some (e, cs)) {j : Nat} (hj : j < cs.length) {c : T} {v : Value}
    (hc : TR E c v) (h1 : v.oneCell' = true) (h2 : cellOk c = true) :
    Inv (E.upd (E.w.setCell ⟨E.φ r p, j, none⟩ v) r p (·.set j c)) w0 ∧ Evo E (E.upd (E.w.setCell ⟨E.φ r p, j, none⟩ v) r p (·.set j c)) ∧
      (∀ P, (store ⟨E.φ r p, j, none⟩ v).run P E.w = .ok () (E.w.setCell ⟨E.φ r p, j, none⟩ v)) := by
  have hn' := Store.at_any hn
  have ev := Evo.upd h (f := (·.set j c)) hn' (by simp) (set_noNew h2) (Wrote.setCell (v := v) (o := j))
  obtain ⟨arr, ty, mk, hb, hlen, hmk, hB, hcr⟩ := h.blk r p e cs hn'
  refine ⟨h.upd hn' (by simp) (set_noNew h2) Wrote.setCell ?_, ev, fun P => ?_⟩
  · intro arr' ty' mk' hb' i x hx
    rw [heap_setCell_same hb] at hb'
    cases hb'
    rw [List.getElem?_set] at hx
    by_cases ei : j = i
    · subst ei
      rw [if_pos rfl, if_pos hj] at hx
      cases hx
      have : (arr.setIfInBounds j v).getD j undef = v := by
        rw [Array.getD_eq_getD_getElem?, Array.getElem?_setIfInBounds_self_of_lt (by omega)]; rfl
      rw [this]
      exact (hc.evo ev).cell h2 h1 _ _ _
    · rw [if_neg ei] at hx
      have : (arr.setIfInBounds j v).getD i undef = arr.getD i undef := by
        rw [Array.getD_eq_getD_getElem?, Array.getElem?_setIfInBounds_ne ei, ← Array.getD_eq_getD_getElem?]
      rw [this]
      exact (hcr i x hx).evo ev Wrote.setCell.sized (fun _ _ _ _ _ => rfl)
  · rw [run_store P E.w _ v _ h1]
    have hcell : E.w.cell? ⟨E.φ r p, j, none⟩ = some (arr[j]'(by omega)) := by
      rw [cell_of_row _ _ _ _ _ _ hb, Array.getElem?_eq_getElem (by omega)]
    have hfr : E.w.frozen? ⟨E.φ r p, j, none⟩ = false := by
      have := hmk j (.inl (by omega))
      simp only [World.frozen?, hb]
      rw [Bool.eq_false_iff]
      intro hh
      simp only [Bool.and_eq_true, decide_eq_true_eq] at hh
      exact this hh
    rw [hcell]
    simp [hfr]

theorem RL.evo {E E' : Env} (h : Evo E E') {ts : List T} {vs : List Value} (k : RL E ts vs) : RL E' ts vs :=
  ⟨k.1, fun j c hj => by obtain ⟨v, h1, h2, h3⟩ := k.2 j c hj; exact ⟨v, h1, h2.evo h, h3⟩⟩

theorem store_list {P : Program} {w0 : World} {r : Nat} {p : List Nat} (off : Nat) : ∀ (ts : List T) (vs : List Value) (i : Nat) (E : Env) (e : Nat) (cs : List T), Inv E w0 → E.S.at false r p = some (e, cs) → off + i + ts.length ≤ cs.length → RL E ts vs →
    ∃ E', (storeCells ⟨E.φ r p, off, none⟩ vs i).run P E.w = .ok () E'.w ∧ E'.S = E.S.upd r p (fun c => setR c (off + i) ts) ∧ Inv E' w0 ∧ Evo E E'
  | [], vs, i, E, e, cs, h, hn, hl, k => by
    have : vs = [] := List.eq_nil_of_length_eq_zero (by simpa using k.1)
    subst this
    exact ⟨E, rfl, by simp only [setR]; rw [Store.upd_id], h, Evo.refl E⟩
  | t :: ts, [], i, E, e, cs, h, hn, hl, k => by have := k.1; simp at this
  | t :: ts, v :: vs, i, E, e, cs, h, hn, hl, k => by
    obtain ⟨v', hv, h1, h2, h3⟩ := k.2 0 t rfl
    simp only [List.getElem?_cons_zero, Option.some.injEq] at hv
    subst hv
    simp only [List.length_cons] at hl
    obtain ⟨g1, g2, g3⟩ := store_one h hn (j := off + i) (by omega) h1 h2 h3
    have hk : RL E ts vs := ⟨by simpa using k.1, fun j c hc => by simpa using k.2 (j + 1) c (by simpa using hc)⟩
    obtain ⟨E', r1, r2, r3, r4⟩ := store_list (P := P) off ts vs (i + 1) (E.upd (E.w.setCell ⟨E.φ r p, off + i, none⟩ v) r p (·.set (off + i) t)) e (cs.set (off + i) t) g1 (Store.at_upd_self hn) (by simp; omega) (hk.evo g2)
    refine ⟨E', ?_, ?_, r3, g2.trans r4⟩
    · rw [storeCells, Sem.run_bind, addr_add, g3 P]
      exact r1
    · rw [r2]
      simp only [Env.upd, Store.upd_upd, setR, Nat.add_assoc]

def storeT (P : Program) (S : Store) (t : TypeId) (x y : T) : Option Store :=
  match x with
  | .ptr r p off => match S.at false r p, szT P t with
    | some (_, cs), some sz => if sz = (compsT y).length ∧ off + sz ≤ cs.length ∧ storable S (compsT y) = true then some (S.upd r p (fun c => setR c off (compsT y))) else none
    | _, _ => none
  | _ => none

theorem store_run {P : Program} {o : Oper} {t : TypeId} {xo yo : Operand} (ho : o.op = .store t xo yo) {a : Act} {E : Env} {w0 : World} {n : Nat} {fr : Nat → T}
    (h : Inv E w0) (hf : FR E n fr a) {S' : Store} (hr : storeT P E.S t (ev fr xo) (ev fr yo) = some S') :
    ∃ E', (execOp a.eval o).run P E.w = .ok .skip E'.w ∧ E'.S = S' ∧ Inv E' w0 ∧ Evo E E' := by
  unfold storeT at hr
  split at hr
  case h_2 => cases hr
  rename_i r' p' off' hs
  split at hr
  case h_2 => cases hr
  rename_i e cs sz hat hsz
  split at hr
  case isFalse => cases hr
  rename_i hb
  obtain ⟨b1, b2, b3⟩ := hb
  cases hr
  have hx := hf.ev xo
  rw [hs] at hx
  generalize hval : a.eval xo = val at hx
  have hval2 : val = .pointer (some ⟨E.φ r' p', off', none⟩) := by
    cases hx with
    | ptr hr hh => exact hh _ hat
  have hrl := (hf.ev yo).rl b3
  obtain ⟨E', r1, r2, r3, r4⟩ := store_list (P := P) off' _ _ 0 E e cs h hat (by omega) hrl
  refine ⟨E', ?_, by rw [r2]; rfl, r3, r4⟩
  have hcs : (a.eval yo).cells.size = sz := by rw [b1, ← hrl.1, Array.length_toList]
  simp only [execOp, ho, hval, hval2, Sem.run_bind, Instr.storeAt, Instr.sureAddr, Sem.run_pure, Result.andThen_ok, storeVar, szT_run hsz]
  rw [if_neg (by rw [hcs]; simp)]
  rw [r1]
  rfl

/-! ### clear -/
def zeroR (zs : List T) (n : Nat) : List T := (List.range (n * zs.length)).map fun i => zs.getD (i % zs.length) .dead
theorem zeroR_length (zs : List T) (n : Nat) : (zeroR zs n).length = n * zs.length := by simp [zeroR]
def clearT (P : Program) (S : Store) (t : TypeId) (x : T) : Option (T × Store) :=
  match elemT P t with
  | some e => match zeroT P e with
    | some zs => match x with
      | .ref r p off n => match S.at false r p with
        | some (_, cs) => if 0 < n ∧ off + n * zs.length ≤ cs.length then some (.v (.tuple #[]), S.upd r p (fun c => setR c off (zeroR zs n))) else none
        | none => none
      | _ => none
    | none => none
  | none => none

theorem clear_gives {P : Program} {o : Oper} {t : TypeId} {xo : Operand} (ho : o.op = .call { callee := .builtin .clear, args := #[xo], argTypes := #[t] }) {a : Act} {E : Env} {w0 : World} {N : Nat} {fr : Nat → T}
    (h : Inv E w0) (hf : FR E N fr a) {r : T} {S' : Store} (hr : clearT P E.S t (ev fr xo) = some (r, S')) : Gives P o a E w0 r S' := by
  unfold clearT at hr
  split at hr
  case h_2 => cases hr
  rename_i e he
  split at hr
  case h_2 => cases hr
  rename_i zs hzs
  split at hr
  case h_2 => cases hr
  rename_i r' p' off n hxo
  split at hr
  case h_2 => cases hr
  rename_i e' cs hat
  split at hr
  case isFalse => cases hr
  rename_i hb
  obtain ⟨b1, b2⟩ := hb
  cases hr
  obtain ⟨z, hz, rfl, hza⟩ := zeroT_run hzs
  have hx := hf.ev xo
  rw [hxo] at hx
  generalize hval : a.eval xo = val at hx
  obtain ⟨cap, hv2⟩ : ∃ cap, val = .slice (some ⟨E.φ r' p', off, none⟩) n cap := by
    cases hx with
    | ref hr hh =>
      obtain ⟨cap, _, _, _, _, _, _, h4⟩ := hh _ _ hat
      exact ⟨cap, h4⟩
  have hrl : RL E (zeroR (z.cells.toList.map .v) n) (Builtin.zeroCells z.cells n).toList := by
    refine ⟨by simp [zeroR, Builtin.zeroCells], fun j c hj => ?_⟩
    unfold zeroR at hj
    rw [List.getElem?_map] at hj
    obtain ⟨i, hi, rfl⟩ := Option.map_eq_some_iff.1 hj
    have hlt := (List.getElem?_eq_some_iff.1 hi).1
    rw [List.getElem?_range (by simpa using hlt)] at hi
    cases hi
    simp only [List.length_range, List.length_map, Array.length_toList] at hlt ⊢
    have hpos : 0 < z.cells.size := by
      rcases Nat.eq_zero_or_pos z.cells.size with h0 | h0
      · rw [h0, Nat.mul_zero] at hlt; exact absurd hlt (Nat.not_lt_zero _)
      · exact h0
    have hm := Nat.mod_lt j hpos
    have e1 : (z.cells.toList.map T.v).getD (j % z.cells.size) .dead = .v (z.cells[j % z.cells.size]'hm) := by
      rw [List.getD_eq_getElem?_getD, List.getElem?_map, List.getElem?_eq_getElem (by rw [Array.length_toList]; exact hm)]
      simp
    have h1c : (z.cells[j % z.cells.size]'hm).oneCell' = true := List.all_eq_true.1 hza _ (by rw [Array.mem_toList_iff]; exact Array.getElem_mem hm)
    rw [e1]
    refine ⟨z.cells[j % z.cells.size]'hm, ?_, .v _, h1c, h1c⟩
    simp [Builtin.zeroCells, hlt, hm]
  obtain ⟨E', r1, r2, r3, r4⟩ := store_list (P := P) off _ _ 0 E e' cs h hat (by rw [zeroR_length]; omega) hrl
  refine ⟨.tuple #[], E', ?_, by rw [r2]; rfl, r3, r4, .v _⟩
  have hu := elemT_run he
  have hclear : (Builtin.clear_ #[t] o.type #[a.eval xo]).run P E.w = .ok (.tuple #[]) E'.w := by
    rw [hval, hv2]
    cases n with
    | zero => omega
    | succ n => simp [Builtin.clear_, run_underlying hu, hz, r1]
  simp only [execOp, ho, resolve, invoke, builtin, Sem.run_bind, Sem.run_pure, Result.andThen_ok, List.map_toArray, List.map_cons, List.map_nil, hclear]

end Go.TL

/- append on trees. No conditions. -/
namespace Go.TL
set_option linter.unusedSimpArgs false
open Go.RowKit

theorem Wrote.refl (w : World) (b : Nat) : Wrote w w b := ⟨rfl, rfl, rfl, rfl, fun _ _ => rfl, fun arr _ _ h => ⟨arr, h, rfl⟩⟩

theorem setCells_wrote (g : Nat) (ty : TypeId) (mk : Nat × Nat) : ∀ (vs : List Value) (o : Nat) (w : World) (arr : Array Value), w.heap[g]? = some (.cells arr ty mk) → o + vs.length ≤ arr.size →
    Wrote w (w.setCells g o vs) g ∧ ∃ arr' : Array Value, (w.setCells g o vs).heap[g]? = some (.cells arr' ty mk) ∧ arr'.size = arr.size ∧ (∀ j, j < o → arr'.getD j undef = arr.getD j undef) ∧ (∀ j, j < vs.length → arr'.getD (o + j) undef = vs.getD j undef)
  | [], o, w, arr, h, _ => ⟨Wrote.refl _ _, arr, h, rfl, fun _ _ => rfl, fun j hj => by simp at hj⟩
  | v :: vs, o, w, arr, h, hl => by
    simp only [List.length_cons] at hl
    obtain ⟨h1, arr', h2, h3, h4, h5⟩ := setCells_wrote g ty mk vs (o + 1) (w.setCell ⟨g, o, none⟩ v) (arr.setIfInBounds o v) (heap_setCell_same h) (by simp; omega)
    refine ⟨Wrote.setCell.trans h1, arr', h2, by rw [h3]; simp, fun j hj => ?_, fun j hj => ?_⟩
    · rw [h4 j (by omega), Array.getD_eq_getD_getElem?, Array.getElem?_setIfInBounds_ne (by omega), ← Array.getD_eq_getD_getElem?]
    · cases j with
      | zero =>
        rw [Nat.add_zero, h4 o (by omega), Array.getD_eq_getD_getElem?, Array.getElem?_setIfInBounds_self_of_lt (by omega)]
        rfl
      | succ j =>
        have := h5 j (by simpa using hj)
        rw [show o + (j + 1) = o + 1 + j by omega, this]
        simp

def notInt (P : Program) (t : TypeId) : Bool :=
  match P.underlying t with
  | some (.slice _) => true
  | some .string => true
  | _ => false

/-- What stands behind an append: the row that has it, where it lies. -/
structure Appended (w w' : World) (g0 : Option Nat) (e : TypeId) (sz need : Nat) (xs news : List Value) (v : Value) : Prop where
  row : ∃ g cap arr ty mk, v = .slice (some ⟨g, 0, none⟩) need cap ∧ w'.heap[g]? = some (.cells arr ty mk) ∧ MkOk mk arr.size sz ∧ need ≤ cap ∧ cap * sz ≤ arr.size ∧
    (∀ j, j < xs.length → arr.getD j undef = xs.getD j undef) ∧ (∀ j, j < news.length → arr.getD (xs.length + j) undef = news.getD j undef) ∧
    ((g0 = some g ∧ Wrote w w' g) ∨ (g = w.heap.size ∧ Made w w' arr ty mk))

theorem append_in {P : Program} {t ty2 oty e : TypeId} {sz : Nat} (ht : elemT P t = some e) (hsz : szT P e = some sz) (h2 : notInt P ty2 = true) {w : World} {g n cap : Nat} {arr : Array Value} {ty : TypeId} {mk : Nat × Nat}
    (hg : w.heap[g]? = some (.cells arr ty mk)) (hmk : MkOk mk arr.size sz) (hcap : cap * sz ≤ arr.size) {y : Value} {m : Nat} {news : List Value} (hy : (Builtin.lenOf y).run P w = .ok m w)
    (hnews : news.length = m * sz) (h1 : ∀ u ∈ news, u.oneCell' = true) (hfirst : (Builtin.firstCells sz m y).run P w = .ok news.toArray w) (hroom : n + m ≤ cap) :
    (Builtin.append_ #[t, ty2] oty #[.slice (some ⟨g, 0, none⟩) n cap, y]).run P w = .ok (.slice (some ⟨g, 0, none⟩) (n + m) cap) (w.setCells g (n * sz) news) := by
  have hu := elemT_run ht
  have hle : n * sz + news.length ≤ arr.size := by
    rw [hnews, ← Nat.add_mul]
    exact Nat.le_trans (Nat.mul_le_mul_right _ hroom) hcap
  have hst := run_storeCells_cells (P := P) g (n * sz) news 0 w (fun j hj => by
      rw [cell_of_row _ _ _ _ _ _ hg, Array.getElem?_eq_getElem (by omega)]; rfl) (fun j hj => by
      have := hmk (n * sz + 0 + j) (.inl (by omega))
      simp only [World.frozen?, hg]
      rw [Bool.eq_false_iff]
      intro hh
      simp only [Bool.and_eq_true, decide_eq_true_eq] at hh
      exact this hh) h1
  simp only [Nat.add_zero] at hst
  have hd : (∃ x, P.underlying ty2 = some (.slice x)) ∨ P.underlying ty2 = some .string := by
    unfold notInt at h2
    split at h2
    · rename_i hh; exact .inl ⟨_, hh⟩
    · rename_i hh; exact .inr hh
    · cases h2
  rcases hd with ⟨d, hd1⟩ | hd1 <;> simp [Builtin.append_, run_underlying hu, run_underlying hd1, szT_run hsz, hy, hroom, hfirst, addr_add, hst]

theorem append_out {P : Program} {t ty2 oty e : TypeId} {sz bs : Nat} (ht : elemT P t = some e) (hsz : szT P e = some sz) (hbs : bytesT P e = some bs) (h2 : notInt P ty2 = true) {z : Value} (hz : ∀ w, (zeroValue e).run P w = .ok z w)
    {w : World} {A : Option Addr} {n cap : Nat} {xs : List Value} (hxs : (Builtin.firstCells sz n (.slice A n cap)).run P w.drew = .ok xs.toArray w.drew) {y : Value} {m : Nat} {news : List Value} (hy : (Builtin.lenOf y).run P w = .ok m w)
    (hfirst : (Builtin.firstCells sz m y).run P w.drew = .ok news.toArray w.drew) (hroom : cap < n + m) (hbound : (n + m) * bs ≤ 140737488355328) (hmax : n + m < 2 ^ 63) :
    (Builtin.append_ #[t, ty2] oty #[.slice A n cap, y]).run P w = .ok (.slice (some ⟨w.heap.size, 0, none⟩) (n + m) (grownCap w (n + m) cap e)) (w.drew.alloc (.cells (xs.toArray ++ (news.toArray ++ Builtin.zeroCells z.cells (grownCap w (n + m) cap e - (n + m)))) e)) := by
  have hu := elemT_run ht
  obtain ⟨i, hi, hbi⟩ := Option.map_eq_some_iff.1 hbs
  have hd : (∃ x, P.underlying ty2 = some (.slice x)) ∨ P.underlying ty2 = some .string := by
    unfold notInt at h2
    split at h2
    · rename_i hh; exact .inl ⟨_, hh⟩
    · rename_i hh; exact .inr hh
    · cases h2
  have hr : ¬ (n + m ≤ cap) := by omega
  have hg := growslice_fits (need := n + m) (old := cap) (bytes := bs) hroom hbound
  have hmx : ¬ ((9223372036854775807 : Int) < ((n + m : Nat) : Int)) := by omega
  have hmx2 : ¬ ((9223372036854775807 : Int) < (n : Int) + (m : Int)) := by omega
  have hg' : ¬ (281474976710656 < Builtin.nextslicecap (n + m) cap * bs) := by omega
  rcases hd with ⟨d, hd1⟩ | hd1 <;> simp [Builtin.append_, run_underlying hu, run_underlying hd1, szT_run hsz, hy, hr, hmx2, typeInfo, hi, hbi, hg', Question.forced, hxs, hfirst, hz, newRow, grownCap]

end Go.TL

/- A row of one's own that has grown: a new root in the elder one's place; append as a whole. No conditions. -/
namespace Go.TL
set_option linter.unusedSimpArgs false
open Go.RowKit

def Env.regrow (E : Env) (w' : World) (r g : Nat) (x : Root) : Env :=
  { E with w := w', S := E.S.kill r ++ [x], φ := fun r' q => if r' = E.S.length then (if q = [] then g else E.φ r q) else E.φ r' q }

/-- How a world may have turned where a row grew. -/
def GrewAt (w w' : World) (b g : Nat) : Prop := (g = b ∧ Wrote w w' g) ∨ (g = w.heap.size ∧ ∃ arr ty mk, Made w w' arr ty mk)

theorem GrewAt.sized {w w' : World} {b g : Nat} (h : GrewAt w w' b g) : Sized w w' := by
  rcases h with ⟨_, h⟩ | ⟨_, _, _, _, h⟩
  · exact h.sized
  · exact h.sized

theorem GrewAt.size {w w' : World} {b g : Nat} (h : GrewAt w w' b g) : w.heap.size ≤ w'.heap.size := by
  rcases h with ⟨_, h⟩ | ⟨_, _, _, _, h⟩
  · rw [h.size]; exact Nat.le_refl _
  · rw [h.size]; omega

theorem GrewAt.other {w w' : World} {b g k : Nat} (h : GrewAt w w' b g) (hk : k < w.heap.size) (hb : k ≠ b) : w'.heap[k]? = w.heap[k]? := by
  rcases h with ⟨e, h⟩ | ⟨_, _, _, _, h⟩
  · exact h.other k (by rw [e]; exact hb)
  · exact h.old k hk

theorem regrow_at {E : Env} {w' : World} {r g : Nat} {x : Root} {e : Nat} {cs : List T} (hn : E.S.at false r [] = some (e, cs))
    (hnew : ∀ any q y, q ≠ [] → cellsAt any x.e x.cs q = some y → cellsAt any e cs q = some y) {any : Bool} {r' : Nat} {q : List Nat} {y : Nat × List T} (hy : (E.regrow w' r g x).S.at any r' q = some y) :
    (r' = E.S.length ∧ q = [] ∧ y = (x.e, x.cs)) ∨ (r' = E.S.length ∧ q ≠ [] ∧ E.S.at any r q = some y) ∨ (r' ≠ E.S.length ∧ r' ≠ r ∧ E.S.at any r' q = some y) := by
  simp only [Env.regrow] at hy
  rw [Store.at_push, Store.kill_length] at hy
  split at hy
  · rename_i er
    split at hy
    case isFalse => cases hy
    by_cases hq : q = []
    · subst hq
      simp only [cellsAt, Option.some.injEq] at hy
      exact .inl ⟨er, rfl, hy.symm⟩
    · refine .inr (.inl ⟨er, hq, ?_⟩)
      have h1 := hnew any q y hq hy
      have h2 : E.S.at any r [] = some (e, cs) := by
        cases any
        · exact hn
        · exact Store.at_any hn
      have := Store.at_append any E.S r [] q
      rw [List.nil_append, h2] at this
      rw [this]; exact h1
  · rename_i er
    rw [Store.at_kill] at hy
    split at hy
    · cases hy
    · rename_i e2
      exact .inr (.inr ⟨er, e2, hy⟩)

theorem Evo.regrow {E : Env} {w0 : World} (_h : Inv E w0) {r : Nat} {e : Nat} {cs : List T} (hn : E.S.at false r [] = some (e, cs)) {w' : World} {g : Nat} (hg : GrewAt E.w w' (E.φ r []) g) (x : Root)
    (hnew : ∀ any q y, q ≠ [] → cellsAt any x.e x.cs q = some y → cellsAt any e cs q = some y) : Evo E (E.regrow w' r g x) := by
  have hown : E.own (E.φ r []) := ⟨r, [], _, Store.at_any hn, rfl⟩
  refine ⟨rfl, rfl, rfl, by simp [Env.regrow, Store.kill_length], fun k b hb => ?_, fun r' q e1 cs' hr hx => ?_⟩
  · obtain ⟨h1, h4, h3⟩ := hb
    have hne : b ≠ E.φ r [] := by
      rintro rfl
      exact h4 hown
    refine ⟨⟨Nat.lt_of_lt_of_le h1 hg.size, ?_, h3⟩, hg.other h1 hne⟩
    rintro ⟨r', q, y, hy, hbb⟩
    rcases regrow_at hn hnew hy with ⟨rfl, rfl, _⟩ | ⟨rfl, h5, h6⟩ | ⟨h5, h6, h7⟩
    · simp only [Env.regrow, if_true] at hbb
      rcases hg with ⟨hg1, _⟩ | ⟨hg1, _⟩
      · exact hne (by rw [← hbb, hg1])
      · omega
    · simp only [Env.regrow, if_true, if_neg h5] at hbb
      exact h4 ⟨r, q, _, h6, hbb⟩
    · simp only [Env.regrow, if_neg h5] at hbb
      exact h4 ⟨r', q, _, h7, hbb⟩
  · rcases regrow_at hn hnew hx with ⟨rfl, _⟩ | ⟨rfl, _⟩ | ⟨h5, h6, h7⟩
    · omega
    · omega
    · have e1 : (E.regrow w' r g x).φ r' q = E.φ r' q := by simp only [Env.regrow, if_neg h5]
      exact ⟨⟨cs', h7⟩, e1, fun arr ty mk ha => hg.sized _ _ _ _ ha⟩

theorem Inv.regrow {E : Env} {w0 : World} (h : Inv E w0) {r : Nat} {e : Nat} {cs : List T} (hn : E.S.at false r [] = some (e, cs)) {w' : World} {g : Nat} (hg : GrewAt E.w w' (E.φ r []) g) (x : Root)
    (hnew : ∀ any q y, q ≠ [] → cellsAt any x.e x.cs q = some y → cellsAt any e cs q = some y) {arr : Array Value} {ty : TypeId} {mk : Nat × Nat} (ha : w'.heap[g]? = some (.cells arr ty mk)) (hmk : MkOk mk arr.size x.e) (hlen : x.cs.length ≤ arr.size)
    (hc : ∀ j c, x.cs[j]? = some c → CR (E.regrow w' r g x) E.S.length [] j c (arr.getD j undef)) : Inv (E.regrow w' r g x) w0 := by
  have hB : E.B ≤ E.w.heap.size := Nat.le_trans h.hB.1 h.below.size
  have ev := Evo.regrow h hn hg x hnew
  have hown : E.own (E.φ r []) := ⟨r, [], _, Store.at_any hn, rfl⟩
  have hlt := Env.own_lt h hown
  have hgB : E.B ≤ g := by
    rcases hg with ⟨hg1, _⟩ | ⟨hg1, _⟩
    · rw [hg1]; exact hlt.1
    · rw [hg1]; exact hB
  have hbelow : Below E.B E.w w' := by
    rcases hg with ⟨hg1, hw⟩ | ⟨hg1, _, _, _, hm⟩
    · exact ⟨hw.os, hw.tape, hw.output, by rw [hw.size]; exact Nat.le_refl _, fun k hk => hw.other k (by omega)⟩
    · exact ⟨hm.os, hm.tape, hm.output, by rw [hm.size]; omega, fun k hk => hm.old k (by omega)⟩
  have hother : ∀ r' q y, r' ≠ r → E.S.at true r' q = some y → E.φ r' q ≠ E.φ r [] ∧ E.φ r' q < E.w.heap.size := fun r' q y hne hy =>
    ⟨fun hh => hne (h.inj _ _ _ _ _ _ hy (Store.at_any hn) hh).1, (Env.own_lt h ⟨r', q, _, hy, rfl⟩).2⟩
  have hnest : ∀ q y, q ≠ [] → E.S.at true r q = some y → E.φ r q ≠ E.φ r [] ∧ E.φ r q < E.w.heap.size := fun q y hne hy =>
    ⟨fun hh => hne (h.inj _ _ _ _ _ _ hy (Store.at_any hn) hh).2, (Env.own_lt h ⟨r, q, _, hy, rfl⟩).2⟩
  refine ⟨h.below.trans hbelow, h.hB, h.hN, fun r' q e1 cs1 hx => ?_, fun r1 q1 y1 r2 q2 y2 hy1 hy2 hb => ?_, fun r1 q1 y1 hy1 hlt => ?_⟩
  · rcases regrow_at hn hnew hx with ⟨rfl, rfl, hy⟩ | ⟨rfl, hq, hy⟩ | ⟨h5, h6, hy⟩
    · cases hy
      have e2 : (E.regrow w' r g x).φ E.S.length [] = g := by simp [Env.regrow]
      rw [e2]
      exact ⟨arr, ty, mk, ha, hlen, hmk, hgB, hc⟩
    · obtain ⟨a1, t1, m1, h1, h2, h3, h4, h5⟩ := h.blk r q e1 cs1 hy
      have e2 : (E.regrow w' r g x).φ E.S.length q = E.φ r q := by simp [Env.regrow, hq]
      rw [e2]
      have := hnest q _ hq hy
      refine ⟨a1, t1, m1, (hg.other this.2 this.1).trans h1, h2, h3, h4, fun j c hj => ?_⟩
      have hcr := h5 j c hj
      cases hcr with
      | v _ hx' => exact .v _ hx'
      | fz hf => exact .fz (hf.evo fun b hb => ev.fz _ b hb)
      | own hn' hv => exact .own hn' (by rw [show (E.regrow w' r g x).φ E.S.length (q ++ [j]) = E.φ r (q ++ [j]) by simp [Env.regrow]]; exact hv.evo (hg.sized _))
      | ref hv ht => exact .ref hv (ht.evo ev)
      | dead _ hv => exact .dead _ hv
    · obtain ⟨a1, t1, m1, h1, h2, h3, h4, h7⟩ := h.blk r' q e1 cs1 hy
      have e2 : ∀ q, (E.regrow w' r g x).φ r' q = E.φ r' q := fun q => by simp only [Env.regrow, if_neg h5]
      rw [e2]
      have := hother r' q _ h6 hy
      exact ⟨a1, t1, m1, (hg.other this.2 this.1).trans h1, h2, h3, h4, fun j c hj => (h7 j c hj).evo ev hg.sized (fun _ _ _ _ _ => e2 _)⟩
  · rcases regrow_at hn hnew hy1 with ⟨rfl, rfl, k1⟩ | ⟨rfl, k0, k1⟩ | ⟨k0, k0', k1⟩ <;> rcases regrow_at hn hnew hy2 with ⟨rfl, rfl, l1⟩ | ⟨rfl, l0, l1⟩ | ⟨l0, l0', l1⟩
    · exact ⟨rfl, rfl⟩
    · simp only [Env.regrow, if_true, if_neg l0] at hb
      have := hnest q2 _ l0 l1
      rcases hg with ⟨hg1, _⟩ | ⟨hg1, _⟩
      · exact absurd (hb.symm.trans hg1) this.1
      · omega
    · simp only [Env.regrow, if_true, if_neg l0] at hb
      have := hother r2 q2 _ l0' l1
      rcases hg with ⟨hg1, _⟩ | ⟨hg1, _⟩
      · exact absurd (hb.symm.trans hg1) this.1
      · omega
    · simp only [Env.regrow, if_true, if_neg k0] at hb
      have := hnest q1 _ k0 k1
      rcases hg with ⟨hg1, _⟩ | ⟨hg1, _⟩
      · exact absurd (hb.trans hg1) this.1
      · omega
    · simp only [Env.regrow, if_true, if_neg k0, if_neg l0] at hb
      exact ⟨rfl, (h.inj _ _ _ _ _ _ k1 l1 hb).2⟩
    · simp only [Env.regrow, if_true, if_neg k0, if_neg l0] at hb
      exact absurd (h.inj _ _ _ _ _ _ k1 l1 hb).1.symm l0'
    · simp only [Env.regrow, if_true, if_neg k0] at hb
      have := hother r1 q1 _ k0' k1
      rcases hg with ⟨hg1, _⟩ | ⟨hg1, _⟩
      · exact absurd (hb.trans hg1) this.1
      · omega
    · simp only [Env.regrow, if_true, if_neg k0, if_neg l0] at hb
      exact absurd (h.inj _ _ _ _ _ _ k1 l1 hb).1 k0'
    · simp only [Env.regrow, if_neg k0, if_neg l0] at hb
      exact h.inj _ _ _ _ _ _ k1 l1 hb
  · rcases regrow_at hn hnew hy1 with ⟨rfl, rfl, k1⟩ | ⟨rfl, k0, k1⟩ | ⟨k0, k0', k1⟩
    · have e2 : (E.regrow w' r g x).φ E.S.length [] = g := by simp [Env.regrow]
      rw [e2] at hlt ⊢
      rcases hg with ⟨hg1, _⟩ | ⟨hg1, _⟩
      · have := h.frz r [] _ (Store.at_any hn)
        rw [← hg1] at this
        exact this hlt
      · have hlt1 : g < E.N := hlt
        have := Nat.le_trans h.hN h.below.size
        omega
    · have e2 : (E.regrow w' r g x).φ E.S.length q1 = E.φ r q1 := by simp [Env.regrow, k0]
      rw [e2] at hlt ⊢
      exact h.frz _ _ _ k1 hlt
    · have e2 : (E.regrow w' r g x).φ r1 q1 = E.φ r1 q1 := by simp only [Env.regrow, if_neg k0]
      rw [e2] at hlt ⊢
      exact h.frz _ _ _ k1 hlt

/-! ### what is appended -/
def zc (k : Nat) : T → T
  | .v x => .v x
  | .sl _ _ n e cs => .sl false k n e cs
  | _ => .dead

def bytesT' (s : ByteArray) : List T := s.data.toList.map fun b => .v (.int .u8 b.toNat)

def srcT (S : Store) (sz : Nat) (y : T) : Option (Nat × List T) :=
  match y with
  | .v (.slice none 0 0) => some (0, [])
  | .v (.string s) => if sz = 1 then some (s.size, bytesT' s) else none
  | .sl false k n e cs => if e = sz then some (n, cs.map (zc k)) else none
  | .ref r p off n => match S.at false r p with
    | some (e, cs) => if e = sz ∧ off + n * e ≤ cs.length ∧ ((cs.drop off).take (n * e)).all cellOk = true then some (n, (cs.drop off).take (n * e)) else none
    | none => none
  | _ => none

theorem firstCells_list {P : Program} {w : World} (size n : Nat) (A : Option Addr) (b off len cap : Nat) (cs : List Value) (hl : cs.length = n * size) (hA : cs = [] ∨ A = some ⟨b, off, none⟩)
    (h : ∀ j v, cs[j]? = some v → w.cell? ⟨b, off + j, none⟩ = some v) : (Builtin.firstCells size n (.slice A len cap)).run P w = .ok cs.toArray w := by
  rcases hA with rfl | rfl
  · have h0 : n * size = 0 := by simpa using hl.symm
    cases A with
    | none => simp [Builtin.firstCells]
    | some a => simp [Builtin.firstCells, h0, loadCells, loadCellsFrom]
  · exact run_firstCells_some w size n _ len cap cs hl (fun j v hj => by rw [addr_add]; exact h j v hj)

theorem src_run {P : Program} {E : Env} {w0 : World} (h : Inv E w0) {sz : Nat} {y : T} {val : Value} (ht : TR E y val) {m : Nat} {cs : List T} (hs : srcT E.S sz y = some (m, cs)) :
    ∃ news : List Value, RL E cs news ∧ news.length = m * sz ∧ (Builtin.lenOf val).run P E.w = .ok m E.w ∧ ∀ w', w'.heap = E.w.heap → (Builtin.firstCells sz m val).run P w' = .ok news.toArray w' := by
  unfold srcT at hs
  split at hs
  · cases hs
    cases ht
    exact ⟨[], ⟨rfl, fun j c hj => by simp at hj⟩, by simp, rfl, fun w' _ => rfl⟩
  · rename_i s
    split at hs
    case isFalse => cases hs
    rename_i h1
    subst h1
    cases hs
    cases ht
    refine ⟨s.data.toList.map fun b => .int .u8 b.toNat, ⟨by simp [bytesT'], fun j c hj => ?_⟩, by simp, rfl, fun w' _ => ?_⟩
    · simp only [bytesT', List.getElem?_map] at hj
      obtain ⟨b, hb, rfl⟩ := Option.map_eq_some_iff.1 hj
      exact ⟨.int .u8 b.toNat, by rw [List.getElem?_map, hb]; rfl, .v _, rfl, rfl⟩
    · have e1 : s.extract 0 s.size = s := by
        have := ByteArray.extract_zero_size (b := s)
        exact this
      simp only [Builtin.firstCells, e1, Sem.run_pure]
      congr 1
      refine Array.ext' ?_
      simp
  · rename_i k n e cs'
    split at hs
    case isFalse => cases hs
    rename_i he
    subst he
    cases hs
    cases ht with
    | sl hf =>
      cases hf with
      | sl b off f hn hc ha hcell hrec =>
        refine ⟨(List.range cs'.length).map f, ⟨by simp, fun j c hj => ?_⟩, by simp [hn], rfl, fun w' hw' => ?_⟩
        · rw [List.getElem?_map] at hj
          obtain ⟨c0, hc0, rfl⟩ := Option.map_eq_some_iff.1 hj
          have hlt := (List.getElem?_eq_some_iff.1 hc0).1
          refine ⟨f j, by rw [List.getElem?_map, List.getElem?_range hlt]; rfl, ?_⟩
          have := hrec j c0 hc0
          refine ⟨?_, this.oneCell, ?_⟩
          · generalize hfj : f j = u at this
            cases this with
            | v _ hx => exact .v _
            | sl b1 off1 f1 g1 g2 g3 g4 g5 => exact .sl (.sl b1 off1 f1 g1 g2 g3 g4 g5)
          · generalize hfj : f j = u at this
            cases this with
            | v _ hx => exact hx
            | sl => rfl
        · refine firstCells_list e m _ b off _ _ _ (by simp [hn]) (ha.imp (fun h => by subst h; rfl) (fun h => h.1)) fun j v hj => ?_
          rw [List.getElem?_map] at hj
          obtain ⟨j', hj', rfl⟩ := Option.map_eq_some_iff.1 hj
          have hlt : j < cs'.length := by have := (List.getElem?_eq_some_iff.1 hj').1; simpa using this
          rw [List.getElem?_range hlt] at hj'
          cases hj'
          rw [show w'.cell? ⟨b, off + j, none⟩ = E.w.cell? ⟨b, off + j, none⟩ from cell_of_heap (by rw [hw'])]
          exact hcell j _ (List.getElem?_eq_getElem hlt)
  · rename_i r p off n
    split at hs
    case h_2 => cases hs
    rename_i e cs' hat
    split at hs
    case isFalse => cases hs
    rename_i hb
    obtain ⟨rfl, hb2, hb3⟩ := hb
    cases hs
    cases ht with
    | ref hr hh =>
      obtain ⟨cap, arr, ty, mk, g1, g2, g3, rfl⟩ := hh _ _ hat
      obtain ⟨arr2, ty', mk', k1, k2, k3, k4, k5⟩ := h.blk r p e cs' (Store.at_any hat)
      rw [g1] at k1
      cases k1
      have hlen : ((cs'.drop off).take (m * e)).length = m * e := by simp; omega
      refine ⟨(List.range (m * e)).map (fun j => arr.getD (off + j) undef), ⟨by simp [hlen], fun j c hj => ?_⟩, by simp, rfl, fun w' hw' => ?_⟩
      · have hlt : j < m * e := by rw [← hlen]; exact (List.getElem?_eq_some_iff.1 hj).1
        have hok := List.all_eq_true.1 hb3 _ (List.mem_of_getElem? hj)
        rw [List.getElem?_take_of_lt hlt, List.getElem?_drop] at hj
        have hcr := k5 _ _ hj
        refine ⟨arr.getD (off + j) undef, by rw [List.getElem?_map, List.getElem?_range hlt]; rfl, ?_, hcr.oneCell, hok⟩
        cases hcr with
        | v _ hx => exact .v _
        | fz hf => exact .sl hf
        | own => simp [cellOk] at hok
        | ref hv ht => exact ht
        | dead => simp [cellOk] at hok
      · refine firstCells_list e m _ (E.φ r p) off _ _ _ (by simp) (.inr rfl) fun j v hj => ?_
        rw [List.getElem?_map] at hj
        obtain ⟨j', hj', rfl⟩ := Option.map_eq_some_iff.1 hj
        have hlt : j < m * e := by have := (List.getElem?_eq_some_iff.1 hj').1; simpa using this
        rw [List.getElem?_range hlt] at hj'
        cases hj'
        rw [show w'.cell? ⟨E.φ r p, off + j, none⟩ = E.w.cell? ⟨E.φ r p, off + j, none⟩ from cell_of_heap (by rw [hw']), cell_of_row _ _ _ _ _ _ g1,
          Array.getD_eq_getD_getElem?, Array.getElem?_eq_getElem (by omega)]
        rfl
  · cases hs

end Go.TL

/- append on trees: the operation as a whole. No conditions. -/
namespace Go.TL
set_option linter.unusedSimpArgs false
open Go.RowKit

def appendT (P : Program) (S : Store) (t ty2 : TypeId) (x y : T) : Option (T × Store) :=
  match elemT P t with
  | some e => match szT P e, bytesT P e, zeroT P e with
    | some sz, some bs, some zs => if notInt P ty2 = true ∧ 0 < sz ∧ zs.length = sz then match srcT S sz y with
      | some (m, news) => match x with
        | .v (.slice none 0 0) => if m = 0 then some (.v (.slice none 0 0), S) else if m * bs ≤ 140737488355328 ∧ m < 2 ^ 63 then some (.ref S.length [] 0 m, S ++ [⟨sz, true, news⟩]) else none
        | .ref r [] 0 n => match S.at false r [] with
          | some (e', cs) => if e' = sz ∧ n * sz ≤ cs.length ∧ (n + m) * bs ≤ 140737488355328 ∧ n + m < 2 ^ 63 then some (.ref S.length [] 0 (n + m), S.kill r ++ [⟨sz, true, cs.take (n * sz) ++ news⟩]) else none
          | none => none
        | _ => none
      | none => none
      else none
    | _, _, _ => none
  | none => none

theorem RL.getD {E : Env} {ts : List T} {vs : List Value} (h : RL E ts vs) {j : Nat} {c : T} (hj : ts[j]? = some c) : TR E c (vs.getD j undef) ∧ (vs.getD j undef).oneCell' = true ∧ cellOk c = true := by
  obtain ⟨v, h1, h2, h3, h4⟩ := h.2 j c hj
  rw [List.getD_eq_getElem?_getD, h1]
  exact ⟨h2, h3, h4⟩

theorem RL.allOk {E : Env} {ts : List T} {vs : List Value} (h : RL E ts vs) : ts.all cellOk = true :=
  List.all_eq_true.2 fun c hc => by obtain ⟨j, hj⟩ := List.getElem?_of_mem hc; exact (h.getD hj).2.2

theorem RL.allOne {E : Env} {ts : List T} {vs : List Value} (h : RL E ts vs) : ∀ u ∈ vs, u.oneCell' = true := fun u hu => by
  obtain ⟨j, hj⟩ := List.getElem?_of_mem hu
  have hlt : j < ts.length := by rw [← h.1]; exact (List.getElem?_eq_some_iff.1 hj).1
  have := (h.getD (List.getElem?_eq_getElem hlt)).2.1
  rw [List.getD_eq_getElem?_getD, hj] at this
  exact this

theorem cellsAt_take {any : Bool} {e e' : Nat} {cs news : List T} {k : Nat} (hk : k ≤ cs.length) (hn : news.all cellOk = true) : ∀ q y, q ≠ [] → cellsAt any e' (cs.take k ++ news) q = some y → cellsAt any e cs q = some y := by
  intro q y hq h
  cases q with
  | nil => exact absurd rfl hq
  | cons i q =>
    unfold cellsAt at h ⊢
    have hlen : (cs.take k).length = k := by simp; omega
    rcases Nat.lt_or_ge i k with hi | hi
    · rw [List.getElem?_append_left (by omega), List.getElem?_take_of_lt hi] at h
      exact h
    · rw [List.getElem?_append_right (by omega)] at h
      split at h
      · rename_i k1 n1 e1 cs1 hh
        have := List.all_eq_true.1 hn _ (List.mem_of_getElem? hh)
        simp [cellOk] at this
      · cases h

theorem append_gives {P : Program} {o : Oper} {t ty2 : TypeId} {xo yo : Operand} (ho : o.op = .call { callee := .builtin .append, args := #[xo, yo], argTypes := #[t, ty2] }) {a : Act} {E : Env} {w0 : World} {N : Nat} {fr : Nat → T}
    (h : Inv E w0) (hf : FR E N fr a) {r : T} {S' : Store} (hr : appendT P E.S t ty2 (ev fr xo) (ev fr yo) = some (r, S')) : Gives P o a E w0 r S' := by
  have hexec : ∀ {v : Value} {w' : World}, (Builtin.append_ #[t, ty2] o.type #[a.eval xo, a.eval yo]).run P E.w = .ok v w' → (execOp a.eval o).run P E.w = .ok (.value v) w' := by
    intro v w' hv
    simp only [execOp, ho, resolve, invoke, builtin, Sem.run_bind, Sem.run_pure, Result.andThen_ok, List.map_toArray, List.map_cons, List.map_nil, hv]
  unfold appendT at hr
  split at hr
  case h_2 => cases hr
  rename_i e he
  split at hr
  case h_2 => cases hr
  rename_i sz bs zs hsz hbs hzs
  split at hr
  case isFalse => cases hr
  rename_i hc
  obtain ⟨hc1, hc2, hc3⟩ := hc
  obtain ⟨z, hz, rfl, hza⟩ := zeroT_run hzs
  have hzl : z.cells.size = sz := by simpa using hc3
  split at hr
  case h_2 => cases hr
  rename_i m news hsrc
  obtain ⟨nv, s1, s2, s3, s4⟩ := src_run (P := P) h (hf.ev yo) hsrc
  have hnl : news.length = m * sz := by rw [← s1.1, s2]
  split at hr
  · rename_i hx
    have hxv := (hf.ev xo).toV _ _ (.slice none 0 0) (by rw [hx]; rfl)
    split at hr
    · rename_i hm
      cases hr
      subst hm
      refine Gives.pure h (v := .slice none 0 0) (hexec ?_) (.v _)
      have hd : (∃ x, P.underlying ty2 = some (.slice x)) ∨ P.underlying ty2 = some .string := by
        unfold notInt at hc1
        split at hc1
        · rename_i hh; exact .inl ⟨_, hh⟩
        · rename_i hh; exact .inr hh
        · cases hc1
      have hnil : nv = [] := List.eq_nil_of_length_eq_zero (by simpa using s2)
      have s5 := s4 E.w rfl
      rw [hnil] at s5
      rw [hxv]
      have hu := elemT_run he
      rcases hd with ⟨d, hd1⟩ | hd1 <;> simp [Builtin.append_, run_underlying hu, run_underlying hd1, szT_run hsz, s3, s5]
    · rename_i hm
      split at hr
      case isFalse => cases hr
      rename_i hb
      cases hr
      have hrun := append_out (P := P) (oty := o.type) he hsz hbs hc1 hz (w := E.w) (A := none) (n := 0) (cap := 0) (xs := []) (y := a.eval yo) (m := m) (news := nv) (by simp [Builtin.firstCells]) s3 (s4 E.w.drew rfl) (by omega) (by simpa using hb.1) (by omega)
      simp only [Nat.zero_add] at hrun
      have hge : m ≤ grownCap E.w m 0 e := grownCap_ge E.w m 0 e
      have hmade : Made E.w (E.w.drew.alloc (.cells (([] : List Value).toArray ++ (nv.toArray ++ Builtin.zeroCells z.cells (grownCap E.w m 0 e - m))) e)) (([] : List Value).toArray ++ (nv.toArray ++ Builtin.zeroCells z.cells (grownCap E.w m 0 e - m))) e (0, 0) := by
        have := Made.alloc E.w.drew (([] : List Value).toArray ++ (nv.toArray ++ Builtin.zeroCells z.cells (grownCap E.w m 0 e - m))) e (0, 0)
        exact ⟨this.os, this.tape, this.output, this.size, this.old, this.new⟩
      have hsize : (([] : List Value).toArray ++ (nv.toArray ++ Builtin.zeroCells z.cells (grownCap E.w m 0 e - m))).size = grownCap E.w m 0 e * sz := by
        simp only [Array.size_append, List.size_toArray, size_zeroCells, hzl, s2, List.length_nil, Nat.zero_add, ← Nat.add_mul]
        congr 1; omega
      refine Inv.new h hmade sz (mk0 _ _) _ s1.allOk (by rw [hsize, hnl]; exact Nat.mul_le_mul_right _ hge) (fun j c hj => ?_) (v := .slice (some ⟨E.w.heap.size, 0, none⟩) m (grownCap E.w m 0 e)) (hexec (by rw [hxv]; exact hrun)) (ref_new E hmade sz m _ _ hge (by rw [hsize]; exact Nat.le_refl _))
      have hlt : j < nv.length := by rw [s1.1]; exact (List.getElem?_eq_some_iff.1 hj).1
      have hg := s1.getD hj
      have : (([] : List Value).toArray ++ (nv.toArray ++ Builtin.zeroCells z.cells (grownCap E.w m 0 e - m))).getD j undef = nv.getD j undef := by
        rw [Array.getD_eq_getD_getElem?, show ([] : List Value).toArray ++ (nv.toArray ++ Builtin.zeroCells z.cells (grownCap E.w m 0 e - m)) = nv.toArray ++ Builtin.zeroCells z.cells (grownCap E.w m 0 e - m) by simp, Array.getElem?_append_left (by simpa using hlt), List.getElem?_toArray, ← List.getD_eq_getElem?_getD]
      rw [this]
      exact ⟨hg.1, hg.2.1⟩
  · rename_i r' n hx
    split at hr
    case h_2 => cases hr
    rename_i e' cs hat
    split at hr
    case isFalse => cases hr
    rename_i hb
    obtain ⟨rfl, b2, b3, b4⟩ := hb
    cases hr
    have hxr := hf.ev xo
    rw [hx] at hxr
    generalize hval : a.eval xo = val at hxr hexec
    cases hxr with
    | ref hr hh =>
      obtain ⟨cap, arr, ty, mk, g1, g2, g3, rfl⟩ := hh _ _ hat
      obtain ⟨arr2, ty2', mk2, k1, k2, k3, k4, k5⟩ := h.blk r' [] e' cs (Store.at_any hat)
      rw [g1] at k1
      cases k1
      have hnew : ∀ any q y, q ≠ [] → cellsAt any e' (cs.take (n * e') ++ news) q = some y → cellsAt any e' cs q = some y := fun any q y hq hy => cellsAt_take b2 s1.allOk q y hq hy
      have hlen : (cs.take (n * e') ++ news).length = (n + m) * e' := by simp [hnl, Nat.add_mul]; omega
      -- what both ways share
      have fin : ∀ (w' : World) (g cap' : Nat) (arr' : Array Value) (ty' : TypeId) (mk' : Nat × Nat), GrewAt E.w w' (E.φ r' []) g → w'.heap[g]? = some (.cells arr' ty' mk') → MkOk mk' arr'.size e' → n + m ≤ cap' → cap' * e' ≤ arr'.size →
          (∀ j, j < n * e' → arr'.getD j undef = arr.getD j undef) → (∀ j, j < m * e' → arr'.getD (n * e' + j) undef = nv.getD j undef) →
          (execOp a.eval o).run P E.w = .ok (.value (.slice (some ⟨g, 0, none⟩) (n + m) cap')) w' → Gives P o a E w0 (.ref E.S.length [] 0 (n + m)) (E.S.kill r' ++ [⟨e', true, cs.take (n * e') ++ news⟩]) := by
        intro w' g cap' arr' ty' mk' hgrew harr hmk' hcap1 hcap2 hold hnews hrun
        have ev := Evo.regrow h hat hgrew ⟨e', true, cs.take (n * e') ++ news⟩ hnew
        have hc : ∀ j c, (cs.take (n * e') ++ news)[j]? = some c → CR (E.regrow w' r' g ⟨e', true, cs.take (n * e') ++ news⟩) E.S.length [] j c (arr'.getD j undef) := by
          intro j c hj
          have hlt : (cs.take (n * e')).length = n * e' := by simp; omega
          rcases Nat.lt_or_ge j (n * e') with hi | hi
          · rw [List.getElem?_append_left (by omega), List.getElem?_take_of_lt hi] at hj
            rw [hold j hi]
            have hcr := k5 j c hj
            cases hcr with
            | v _ hx' => exact .v _ hx'
            | fz hf' => exact .fz (hf'.evo fun b hb => ev.fz _ b hb)
            | own hn' hv => exact .own hn' (by rw [show (E.regrow w' r' g ⟨e', true, cs.take (n * e') ++ news⟩).φ E.S.length ([] ++ [j]) = E.φ r' ([] ++ [j]) by simp [Env.regrow]]; exact hv.evo (hgrew.sized _))
            | ref hv ht => exact .ref hv (ht.evo ev)
            | dead _ hv => exact .dead _ hv
          · rw [List.getElem?_append_right (by omega), hlt] at hj
            have hjl : j - n * e' < m * e' := by rw [← hnl]; exact (List.getElem?_eq_some_iff.1 hj).1
            have := hnews (j - n * e') hjl
            rw [show n * e' + (j - n * e') = j by omega] at this
            rw [this]
            have hg := s1.getD hj
            exact (hg.1.evo ev).cell hg.2.2 hg.2.1 _ _ _
        refine ⟨_, E.regrow w' r' g ⟨e', true, cs.take (n * e') ++ news⟩, hrun, rfl, h.regrow hat hgrew _ hnew harr hmk' (by rw [hlen]; exact Nat.le_trans (Nat.mul_le_mul_right _ hcap1) hcap2) hc, ev, ?_⟩
        refine .ref (by simp [Env.regrow, Store.kill_length]) fun e2 cs2 hat2 => ?_
        have e3 : (E.regrow w' r' g ⟨e', true, cs.take (n * e') ++ news⟩).S.at false E.S.length [] = some (e', cs.take (n * e') ++ news) := by
          simp only [Env.regrow]
          rw [Store.at_push, Store.kill_length, if_pos rfl]; rfl
        rw [e3] at hat2
        cases hat2
        have e4 : (E.regrow w' r' g ⟨e', true, cs.take (n * e') ++ news⟩).φ E.S.length [] = g := by simp [Env.regrow]
        rw [e4]
        exact ⟨cap', arr', ty', mk', harr, hcap1, by omega, rfl⟩
      by_cases hroom : n + m ≤ cap
      · have hrun := append_in (P := P) (oty := o.type) he hsz hc1 g1 k3 (by omega) (n := n) s3 s2 s1.allOne (s4 E.w rfl) hroom
        have hle : n * e' + nv.length ≤ arr.size := by rw [s2, ← Nat.add_mul]; exact Nat.le_trans (Nat.mul_le_mul_right _ hroom) (by omega)
        obtain ⟨hw, arr', c1, c2, c3, c4⟩ := setCells_wrote _ ty mk nv (n * e') E.w arr g1 hle
        exact fin _ _ cap arr' ty mk (.inl ⟨rfl, hw⟩) c1 (by rw [c2]; exact k3) hroom (by rw [c2]; omega) c3 (fun j hj => c4 j (by omega)) (hexec hrun)
      · have hxs := firstCells_list (P := P) (w := E.w.drew) e' n (some ⟨E.φ r' [], 0, none⟩) (E.φ r' []) 0 n cap ((List.range (n * e')).map fun j => arr.getD j undef) (by simp) (.inr rfl) (fun j v hj => by
          rw [List.getElem?_map] at hj
          obtain ⟨j', hj', rfl⟩ := Option.map_eq_some_iff.1 hj
          have hlt : j < n * e' := by have := (List.getElem?_eq_some_iff.1 hj').1; simpa using this
          rw [List.getElem?_range hlt] at hj'
          cases hj'
          rw [show E.w.drew.cell? ⟨E.φ r' [], 0 + j, none⟩ = E.w.cell? ⟨E.φ r' [], 0 + j, none⟩ from rfl, cell_of_row _ _ _ _ _ _ g1, Nat.zero_add, Array.getD_eq_getD_getElem?, Array.getElem?_eq_getElem (by omega)]
          rfl)
        have hrun := append_out (P := P) (oty := o.type) he hsz hbs hc1 hz (w := E.w) (n := n) (cap := cap) hxs s3 (s4 E.w.drew rfl) (by omega) b3 b4
        have hge : n + m ≤ grownCap E.w (n + m) cap e := grownCap_ge E.w (n + m) cap e
        generalize hcells : ((List.range (n * e')).map fun j => arr.getD j undef).toArray ++ (nv.toArray ++ Builtin.zeroCells z.cells (grownCap E.w (n + m) cap e - (n + m))) = cells at hrun
        have hmade : Made E.w (E.w.drew.alloc (.cells cells e)) cells e (0, 0) := by
          have := Made.alloc E.w.drew cells e (0, 0)
          exact ⟨this.os, this.tape, this.output, this.size, this.old, this.new⟩
        have hsize : cells.size = grownCap E.w (n + m) cap e * e' := by
          rw [← hcells]
          simp only [Array.size_append, List.size_toArray, List.length_map, List.length_range, size_zeroCells, hzl, s2, ← Nat.add_mul]
          congr 1; omega
        refine fin _ _ (grownCap E.w (n + m) cap e) cells e (0, 0) (.inr ⟨rfl, _, _, _, hmade⟩) hmade.new (mk0 _ _) hge (by omega) (fun j hj => ?_) (fun j hj => ?_) (hexec hrun)
        · rw [← hcells, Array.getD_eq_getD_getElem?, Array.getElem?_append_left (by simpa using hj), List.getElem?_toArray, List.getElem?_map, List.getElem?_range hj]
          rfl
        · rw [← hcells, Array.getD_eq_getD_getElem?, Array.getElem?_append_right (by simp), Array.getElem?_append_left (by simp; omega), List.getElem?_toArray, ← List.getD_eq_getElem?_getD]
          simp
  · cases hr

end Go.TL

/- Equality of structs whose parts are plain. No conditions. -/
namespace Go.TL
set_option linter.unusedSimpArgs false
open Go.RowKit

theorem str_eq (a b : ByteArray) : (a.toList == b.toList) = decide (a = b) := by
  by_cases h : a = b
  · subst h; simp
  · rw [decide_eq_false h]
    simp only [beq_eq_false_iff_ne, ne_eq, ByteArray.toList_eq]
    intro hh
    exact h (ByteArray.ext (Array.toList_inj.mp hh))

mutual
/-- Two things' cells, compared as the type says. -/
def eqC (P : Program) : Nat → TypeId → List Value → List Value → Option Bool
  | 0, _, _, _ => none
  | m + 1, t, xs, ys => match P.underlying t with
    | some .bool => match xs, ys with
      | [.bool a], [.bool b] => some (a == b)
      | _, _ => none
    | some (.int _) => match xs, ys with
      | [.int k a], [.int k' b] => if k = k' then some (decide (a = b)) else none
      | _, _ => none
    | some .string => match xs, ys with
      | [.string a], [.string b] => some (decide (a = b))
      | _, _ => none
    | some (.struct fs) => if P.stoodInHeld t = false then eqCs P m fs.toList xs ys else none
    | _ => none
termination_by m => (m, 0)
def eqCs (P : Program) (m : Nat) : List Field → List Value → List Value → Option Bool
  | [], _, _ => some true
  | f :: fs, xs, ys => if f.name = "_" then none else match aggT P f.type, szT P f.type with
    | some agg, some n => if f.offset + n ≤ xs.length ∧ f.offset + n ≤ ys.length ∧ (agg = false → n = 1) then
        match eqC P m f.type ((xs.drop f.offset).take n) ((ys.drop f.offset).take n), eqCs P m fs xs ys with
        | some a, some b => some (a && b)
        | _, _ => none
      else none
    | _, _ => none
termination_by fs => (m, fs.length + 1)
end

def valOf (agg : Bool) (xs : List Value) : Value := if agg then .agg xs.toArray else xs.getD 0 undef

mutual
theorem eqC_run {P : Program} : ∀ (m : Nat) (t : TypeId) (agg : Bool) (xs ys : List Value) (r : Bool), eqC P m t xs ys = some r → aggT P t = some agg → ∀ (d : Nat) (w : World), (Op.equalIn (d + m) t (valOf agg xs) (valOf agg ys)).run P w = .ok r w
  | 0, t, agg, xs, ys, r, h, _, d, w => by simp [eqC] at h
  | m + 1, t, agg, xs, ys, r, h, ha, d, w => by
    unfold eqC at h
    split at h
    · rename_i hu
      split at h
      · rename_i a b
        cases h
        have : agg = false := by simp [aggT, hu] at ha; exact ha
        subst this
        simp [valOf, Op.equalIn, run_underlying hu]
      · cases h
    · rename_i q hu
      split at h
      · rename_i k a k' b
        split at h
        · rename_i hk
          cases h
          subst hk
          have : agg = false := by simp [aggT, hu] at ha; exact ha
          subst this
          simp [valOf, Op.equalIn, run_underlying hu]
          rfl
        · cases h
      · cases h
    · rename_i hu
      split at h
      · rename_i a b
        cases h
        have : agg = false := by simp [aggT, hu] at ha; exact ha
        subst this
        have := run_equalIn_string w (d + m) t a b hu
        rw [str_eq] at this
        exact this
      · cases h
    · rename_i fs hu
      split at h
      · rename_i hs
        have : agg = true := by simp [aggT, hu] at ha; exact ha
        subst this
        have hfs : P.fieldsOf t = fs := by simp [Program.fieldsOf, hu]
        rw [← Nat.add_assoc]
        simp only [valOf, if_true]
        rw [run_equalIn_struct w (d + m) t _ _ (by rw [hfs]; exact hu) hs, hfs]
        exact eqCs_run m fs.toList xs ys r h d w
      · cases h
    · cases h
termination_by m => (m, 0)
theorem eqCs_run {P : Program} (m : Nat) : ∀ (fs : List Field) (xs ys : List Value) (r : Bool), eqCs P m fs xs ys = some r → ∀ (d : Nat) (w : World), (Op.eqFields (d + m) xs.toArray ys.toArray fs).run P w = .ok r w
  | [], xs, ys, r, h, d, w => by simp only [eqCs, Option.some.injEq] at h; subst h; simp [Op.eqFields]
  | f :: fs, xs, ys, r, h, d, w => by
    unfold eqCs at h
    split at h
    · cases h
    rename_i hn
    split at h
    case h_2 => cases h
    rename_i agg n hag hsz
    split at h
    case isFalse => cases h
    rename_i hb
    split at h
    case h_2 => cases h
    rename_i q1 q2 h1 h2
    cases h
    have hx : (part f.type xs.toArray f.offset).run P w = .ok (valOf agg ((xs.drop f.offset).take n)) w := by
      rw [run_part hag hsz _ _ (by cases agg <;> simp_all <;> omega)]
      cases agg with
      | true => simp [valOf, List.extract_eq_take_drop]
      | false =>
        have := hb.2.2 rfl
        subst this
        simp [valOf, List.getD_eq_getElem?_getD, List.getElem?_drop]
    have hy : (part f.type ys.toArray f.offset).run P w = .ok (valOf agg ((ys.drop f.offset).take n)) w := by
      rw [run_part hag hsz _ _ (by cases agg <;> simp_all <;> omega)]
      cases agg with
      | true => simp [valOf, List.extract_eq_take_drop]
      | false =>
        have := hb.2.2 rfl
        subst this
        simp [valOf, List.getD_eq_getElem?_getD, List.getElem?_drop]
    have he := eqC_run m f.type agg _ _ q1 h1 hag d w
    have hr := eqCs_run m fs xs ys q2 h2 d w
    simp only [Op.eqFields, hn, ne_eq, not_false_eq_true, if_true, Sem.run_bind, hx, hy, he, Result.andThen_ok]
    cases q1 with
    | true => simpa using hr
    | false => simp
termination_by fs => (m, fs.length + 1)
end

def eqAggT (P : Program) (neg : Bool) (t : TypeId) (x y : T) : Option T :=
  match toV x, toV y with
  | some (.agg a), some (.agg b) =>
    if P.eqGuardType P.depth t = false ∧ aggT P t = some true then (eqC P 20 t a.toList b.toList).map fun r => .v (.bool (if neg then !r else r)) else none
  | _, _ => none

theorem eqAgg_gives {P : Program} {o : Oper} {neg : Bool} {t ty : TypeId} {xo yo : Operand} (ho : o.op = .binOp (if neg then .neq else .eql) t xo yo ty) {a : Act} {E : Env} {w0 : World} {n : Nat} {fr : Nat → T}
    (h : Inv E w0) (hf : FR E n fr a) {r : T} (hr : eqAggT P neg t (ev fr xo) (ev fr yo) = some r) : Gives P o a E w0 r E.S := by
  unfold eqAggT at hr
  split at hr
  case h_2 => cases hr
  rename_i x y hx hy
  have ex := (hf.ev xo).toV _ _ _ hx
  have ey := (hf.ev yo).toV _ _ _ hy
  split at hr
  case isFalse => cases hr
  rename_i hc
  obtain ⟨q, hq, rfl⟩ := Option.map_eq_some_iff.1 hr
  have hq' : (Op.equal t (.agg x) (.agg y)).run P E.w = .ok q E.w := by
    have := eqC_run 20 t true _ _ q hq hc.2 9980 E.w
    simp only [valOf, if_true, Array.toArray_toList] at this
    exact this
  refine Gives.pure h (v := .bool (if neg then !q else q)) ?_ (.v _)
  simp only [execOp, ho]
  rw [ex, ey]
  cases neg with
  | true => simp [eqGuard, hc.1, binOp, hq']
  | false => simp [eqGuard, hc.1, binOp, hq']

/-- An operation on two things: structs by their parts, all else by the model. -/
def binA (P : Program) (op : BinOp) (t : TypeId) (xo yo : Operand) (x y : T) : Option T :=
  match x with
  | .agg xs => match op with
    | .eql => eqAggT P false t (.agg xs) y
    | .neq => eqAggT P true t (.agg xs) y
    | _ => none
  | x => binT P op t xo yo x y

theorem binA_v (P : Program) (op : BinOp) (t : TypeId) (xo yo : Operand) (a : Value) (y : T) : binA P op t xo yo (.v a) y = binT P op t xo yo (.v a) y := of_eq_true (eq_self _)
theorem binA_eql (P : Program) (t : TypeId) (xo yo : Operand) (xs : List T) (y : T) : binA P .eql t xo yo (.agg xs) y = eqAggT P false t (.agg xs) y := of_eq_true (eq_self _)
theorem binA_neq (P : Program) (t : TypeId) (xo yo : Operand) (xs : List T) (y : T) : binA P .neq t xo yo (.agg xs) y = eqAggT P true t (.agg xs) y := of_eq_true (eq_self _)

theorem binA_gives {P : Program} {o : Oper} {op : BinOp} {t ty : TypeId} {xo yo : Operand} (ho : o.op = .binOp op t xo yo ty) {a : Act} {E : Env} {w0 : World} {n : Nat} {fr : Nat → T}
    (h : Inv E w0) (hf : FR E n fr a) {r : T} (hr : binA P op t xo yo (ev fr xo) (ev fr yo) = some r) : Gives P o a E w0 r E.S := by
  unfold binA at hr
  split at hr
  · rename_i xs hx
    rw [← hx] at hr
    split at hr
    · exact eqAgg_gives (neg := false) ho h hf hr
    · exact eqAgg_gives (neg := true) ho h hf hr
    · cases hr
  · exact binT_gives ho h hf hr

end Go.TL

/- Fewer roots under other numbers. No conditions. -/
namespace Go.TL
set_option linter.unusedSimpArgs false
open Go.RowKit

mutual
/-- Other numbers for the roots that are kept; what is of no kept root is dead. -/
def gcT (keep : List Nat) : T → T
  | .sl true k n e cs => .sl true k n e (gcTs keep cs)
  | .ref r p off n => match keep.idxOf? r with | some i => .ref i p off n | none => .dead
  | .ptr r p off => match keep.idxOf? r with | some i => .ptr i p off | none => .dead
  | .agg cs => .agg (gcTs keep cs)
  | .tup cs => .tup (gcTs keep cs)
  | .clo f cs => .clo f (gcTs keep cs)
  | t => t
def gcTs (keep : List Nat) : List T → List T
  | [] => []
  | c :: cs => gcT keep c :: gcTs keep cs
end

theorem gcTs_map (keep : List Nat) : ∀ cs : List T, gcTs keep cs = cs.map (gcT keep)
  | [] => rfl
  | c :: cs => by rw [gcTs, gcTs_map keep cs]; rfl

theorem gcTs_length (keep : List Nat) (cs : List T) : (gcTs keep cs).length = cs.length := by rw [gcTs_map, List.length_map]

theorem cellsAt_gcTs (keep : List Nat) (any : Bool) : ∀ (p : List Nat) (e : Nat) (cs : List T), cellsAt any e (gcTs keep cs) p = (cellsAt any e cs p).map fun x => (x.1, gcTs keep x.2)
  | [], e, cs => rfl
  | c :: p, e, cs => by
    unfold cellsAt
    rw [gcTs_map, List.getElem?_map]
    cases hc : cs[c]? with
    | none => rfl
    | some t =>
      cases t with
      | sl own k n e' cs' =>
        cases own with
        | false => rfl
        | true =>
          simp only [Option.map_some, gcT]
          split
          · exact cellsAt_gcTs keep any p e' cs'
          · rfl
      | ref r p off n => simp only [Option.map_some, gcT]; cases keep.idxOf? r <;> rfl
      | ptr r p off => simp only [Option.map_some, gcT]; cases keep.idxOf? r <;> rfl
      | _ => rfl

def Root.gc (keep : List Nat) (x : Root) : Root := ⟨x.e, x.live, gcTs keep x.cs⟩

def gcS (keep : List Nat) (S : Store) : Store := keep.map fun r => Root.gc keep ((S[r]?).getD ⟨0, false, []⟩)

def Env.gc (E : Env) (keep : List Nat) : Env := { E with S := gcS keep E.S, φ := fun i p => E.φ (keep.getD i 0) p }

theorem idx_at {ρ : List Nat} {r i : Nat} (h : ρ.idxOf? r = some i) : ρ[i]? = some r := by
  obtain ⟨h1, h2, _⟩ := List.findIdx?_eq_some_iff_getElem.1 (show ρ.findIdx? (· == r) = some i from h)
  rw [List.getElem?_eq_getElem h1]
  simpa using h2

section
variable {E : Env} {w0 : World} {keep : List Nat}

theorem gc_at (hk : ∀ r ∈ keep, r < E.S.length) {any : Bool} {i r : Nat} (hi : keep[i]? = some r) (p : List Nat) : (E.gc keep).S.at any i p = (E.S.at any r p).map fun x => (x.1, gcTs keep x.2) := by
  unfold Store.at
  show (match (gcS keep E.S)[i]? with | some x => _ | none => _) = _
  unfold gcS
  rw [List.getElem?_map, hi]
  have hr := hk r (List.mem_of_getElem? hi)
  simp only [Option.map_some, List.getElem?_eq_getElem hr, Option.getD_some, Root.gc]
  split
  · exact cellsAt_gcTs keep any p _ _
  · rfl

theorem gc_phi {i r : Nat} (hi : keep[i]? = some r) (p : List Nat) : (E.gc keep).φ i p = E.φ r p := by simp [Env.gc, List.getD_eq_getElem?_getD, hi]

theorem gc_at_of (hk : ∀ r ∈ keep, r < E.S.length) {any : Bool} {i : Nat} {p : List Nat} {x : Nat × List T} (hx : (E.gc keep).S.at any i p = some x) :
    ∃ r x1, keep[i]? = some r ∧ E.S.at any r p = some x1 ∧ x = (x1.1, gcTs keep x1.2) := by
  have hi := Store.at_lt hx
  have hi' : i < keep.length := by simpa [Env.gc, gcS] using hi
  obtain ⟨r, hr⟩ : ∃ r, keep[i]? = some r := ⟨_, List.getElem?_eq_getElem hi'⟩
  rw [gc_at hk hr] at hx
  obtain ⟨x1, h1, rfl⟩ := Option.map_eq_some_iff.1 hx
  exact ⟨r, x1, hr, h1, rfl⟩

theorem gc_own (hk : ∀ r ∈ keep, r < E.S.length) {b : Nat} (h : (E.gc keep).own b) : E.own b := by
  obtain ⟨i, p, x, hx, hb⟩ := h
  obtain ⟨r, x1, h1, h2, _⟩ := gc_at_of hk hx
  exact ⟨r, p, x1, h2, by rw [← gc_phi h1]; exact hb⟩

theorem gc_okz (hk : ∀ r ∈ keep, r < E.S.length) {k b : Nat} (h : E.okz k b) : (E.gc keep).okz k b := ⟨h.1, fun ho => h.2.1 (gc_own hk ho), h.2.2⟩

theorem gc_tr (hk : ∀ r ∈ keep, r < E.S.length) : ∀ (t : T) (v : Value), TR E t v → TR (E.gc keep) (gcT keep t) v
  | .v x, v, ht => by cases ht; exact .v _
  | .sl false k n e cs, v, ht => by
    cases ht with
    | sl hz => exact .sl (hz.evo fun b hb => ⟨gc_okz hk hb, rfl⟩)
  | .sl true k n e cs, v, ht => by cases ht
  | .ref r p off n, v, ht => by
    simp only [gcT]
    split
    · rename_i i hi
      have hri := idx_at hi
      cases ht with
      | ref hr hh =>
        refine .ref (by have := (List.getElem?_eq_some_iff.1 hri).1; simpa [Env.gc, gcS] using this) fun e cs hx => ?_
        rw [gc_at hk hri] at hx
        obtain ⟨x1, h1, h2⟩ := Option.map_eq_some_iff.1 hx
        simp only [Prod.mk.injEq] at h2
        obtain ⟨rfl, rfl⟩ := h2
        rw [gc_phi hri]
        exact hh x1.1 x1.2 h1
    · exact .dead _
  | .ptr r p off, v, ht => by
    simp only [gcT]
    split
    · rename_i i hi
      have hri := idx_at hi
      cases ht with
      | ptr hr hh =>
        refine .ptr (by have := (List.getElem?_eq_some_iff.1 hri).1; simpa [Env.gc, gcS] using this) fun x hx => ?_
        rw [gc_at hk hri] at hx
        obtain ⟨x1, h1, h2⟩ := Option.map_eq_some_iff.1 hx
        rw [gc_phi hri]
        exact hh x1 h1
    · exact .dead _
  | .pz k cs off, v, ht => by
    cases ht with
    | pz f hok hcell hrec => exact .pz f (gc_okz hk hok) hcell (fun j c hj => (hrec j c hj).evo fun b hb => ⟨gc_okz hk hb, rfl⟩)
  | .agg cs, v, ht => by
    cases ht with
    | agg hs hh =>
      rw [gcT, gcTs_map]
      refine .agg (by rw [List.length_map]; exact hs) fun i t hi => ?_
      rw [List.getElem?_map] at hi
      obtain ⟨c, hc, rfl⟩ := Option.map_eq_some_iff.1 hi
      exact gc_tr hk c _ (hh i c hc)
  | .tup cs, v, ht => by
    cases ht with
    | tup hs hh =>
      rw [gcT, gcTs_map]
      refine .tup (by rw [List.length_map]; exact hs) fun i t hi => ?_
      rw [List.getElem?_map] at hi
      obtain ⟨c, hc, rfl⟩ := Option.map_eq_some_iff.1 hi
      exact gc_tr hk c _ (hh i c hc)
  | .clo f cs, v, ht => by
    cases ht with
    | clo hs hh =>
      rw [gcT, gcTs_map]
      refine .clo (by rw [List.length_map]; exact hs) fun i t hi => ?_
      rw [List.getElem?_map] at hi
      obtain ⟨c, hc, rfl⟩ := Option.map_eq_some_iff.1 hi
      exact gc_tr hk c _ (hh i c hc)
  | .dead, v, _ => .dead _
termination_by t => SizeOf.sizeOf t
decreasing_by
  all_goals
    have h1 := List.mem_of_getElem? hc
    have h2 := List.sizeOf_lt_of_mem h1
    simp only [T.agg.sizeOf_spec, T.tup.sizeOf_spec, T.clo.sizeOf_spec]
    omega

theorem gc_inv (h : Inv E w0) (hk : ∀ r ∈ keep, r < E.S.length) (hd : keep.Nodup) : Inv (E.gc keep) w0 := by
  refine ⟨h.below, h.hB, h.hN, fun i p e cs hx => ?_, fun i p x i' p' x' hx hx' hb => ?_, fun i p x hx hlt => ?_⟩
  · obtain ⟨r, x1, h1, h2, h3⟩ := gc_at_of hk hx
    simp only [Prod.mk.injEq] at h3
    obtain ⟨rfl, rfl⟩ := h3
    obtain ⟨arr, ty, mk, a1, a2, a3, a4, a5⟩ := h.blk r p x1.1 x1.2 h2
    refine ⟨arr, ty, mk, by rw [gc_phi h1]; exact a1, by rw [gcTs_length]; exact a2, a3, by rw [gc_phi h1]; exact a4, fun j c hc => ?_⟩
    rw [gcTs_map, List.getElem?_map] at hc
    obtain ⟨c1, hc1, rfl⟩ := Option.map_eq_some_iff.1 hc
    cases a5 j c1 hc1 with
    | v _ hv => exact .v _ hv
    | fz hz => exact .fz (hz.evo fun b hb => ⟨gc_okz hk hb, rfl⟩)
    | own hn hv =>
      refine .own (by rw [gcTs_length]; exact hn) ?_
      rw [gc_phi h1]; exact hv
    | ref hv ht =>
      have := gc_tr hk _ _ ht
      simp only [gcT] at this ⊢
      split at this
      · exact .ref hv this
      · exact .dead _ hv
    | dead _ hv => exact .dead _ hv
  · obtain ⟨r, x1, h1, h2, _⟩ := gc_at_of hk hx
    obtain ⟨r', x1', h1', h2', _⟩ := gc_at_of hk hx'
    rw [gc_phi h1, gc_phi h1'] at hb
    obtain ⟨e1, e2⟩ := h.inj _ _ _ _ _ _ h2 h2' hb
    subst e1
    exact ⟨(List.getElem?_inj (List.getElem?_eq_some_iff.1 h1).1 hd).1 (h1.trans h1'.symm), e2⟩
  · obtain ⟨r, x1, h1, h2, _⟩ := gc_at_of hk hx
    rw [gc_phi h1] at hlt ⊢
    exact h.frz _ _ _ h2 hlt

theorem gc_evo {E0 : Env} (ev : Evo E0 E) (hk : ∀ r ∈ keep, r < E.S.length) (hm : ∀ i, i < E0.S.length → keep[i]? = some i) : Evo E0 (E.gc keep) := by
  refine ⟨ev.B, ev.N, ev.K, ?_, fun k b hb => ⟨gc_okz hk (ev.fz k b hb).1, (ev.fz k b hb).2⟩, fun r p e cs' hr hx => ?_⟩
  · show _ ≤ (gcS keep E.S).length
    unfold gcS
    rw [List.length_map]
    rcases Nat.lt_or_ge keep.length E0.S.length with hlt | hge
    · have := (List.getElem?_eq_some_iff.1 (hm _ hlt)).1
      omega
    · exact hge
  · obtain ⟨r1, x1, h1, h2, h3⟩ := gc_at_of hk hx
    rw [hm r hr] at h1
    cases h1
    simp only [Prod.mk.injEq] at h3
    obtain ⟨rfl, rfl⟩ := h3
    obtain ⟨h4, h5, h6⟩ := ev.node r p x1.1 x1.2 hr h2
    exact ⟨h4, by rw [gc_phi (hm r hr)]; exact h5, h6⟩

end

end Go.TL

/- The same cells under other names: a row of one's own that is put into a cell of another, a row that is taken out of a cell. No conditions. -/
namespace Go.TL
set_option linter.unusedSimpArgs false
open Go.RowKit

abbrev NMap := Nat → List Nat → Option (Nat × List Nat)

mutual
/-- Other names for nodes in a tree; what has no new name is dead. -/
def reT (f : NMap) : T → T
  | .sl true k n e cs => .sl true k n e (reTs f cs)
  | .ref r p off n => match f r p with | some x => .ref x.1 x.2 off n | none => .dead
  | .ptr r p off => match f r p with | some x => .ptr x.1 x.2 off | none => .dead
  | .agg cs => .agg (reTs f cs)
  | .tup cs => .tup (reTs f cs)
  | .clo g cs => .clo g (reTs f cs)
  | t => t
def reTs (f : NMap) : List T → List T
  | [] => []
  | c :: cs => reT f c :: reTs f cs
end

theorem reTs_map (f : NMap) : ∀ cs : List T, reTs f cs = cs.map (reT f)
  | [] => rfl
  | c :: cs => by rw [reTs, reTs_map f cs]; rfl
theorem reTs_length (f : NMap) (cs : List T) : (reTs f cs).length = cs.length := by rw [reTs_map, List.length_map]
theorem reT_own {f : NMap} {c : T} {k n e : Nat} {cs : List T} (h : reT f c = .sl true k n e cs) : ∃ cs', c = .sl true k n e cs' ∧ cs = reTs f cs' := by
  cases c with
  | sl own => cases own with
    | false => simp [reT] at h
    | true => simp only [reT, T.sl.injEq] at h; obtain ⟨_, rfl, rfl, rfl, rfl⟩ := h; exact ⟨_, rfl, rfl⟩
  | ref r p off n' => simp only [reT] at h; split at h <;> cases h
  | ptr r p off => simp only [reT] at h; split at h <;> cases h
  | _ => simp [reT] at h

theorem cellsAt_reTs (f : NMap) (any : Bool) : ∀ (p : List Nat) (e : Nat) (cs : List T), cellsAt any e (reTs f cs) p = (cellsAt any e cs p).map fun x => (x.1, reTs f x.2)
  | [], e, cs => rfl
  | c :: p, e, cs => by
    unfold cellsAt
    rw [reTs_map, List.getElem?_map]
    cases hc : cs[c]? with
    | none => rfl
    | some t =>
      cases t with
      | sl own k n e' cs' =>
        cases own with
        | false => rfl
        | true =>
          simp only [Option.map_some, reT]
          split
          · exact cellsAt_reTs f any p e' cs'
          · rfl
      | ref r p off n => simp only [Option.map_some, reT]; cases f r p <;> rfl
      | ptr r p off => simp only [Option.map_some, reT]; cases f r p <;> rfl
      | _ => rfl

def reS (f : NMap) (S : Store) : Store := S.map fun y => ⟨y.e, y.live, reTs f y.cs⟩
theorem reS_length (f : NMap) (S : Store) : (reS f S).length = S.length := by rw [reS, List.length_map]
theorem reS_at {f : NMap} {any : Bool} {S : Store} {r : Nat} {p : List Nat} : (reS f S).at any r p = (S.at any r p).map fun y => (y.1, reTs f y.2) := by
  unfold Store.at reS
  rw [List.getElem?_map]
  cases S[r]? with
  | none => rfl
  | some y =>
    simp only [Option.map_some]
    split
    · exact cellsAt_reTs _ _ _ _ _
    · rfl

/-- What may lie in a cell at all. -/
def cellish : T → Bool
  | .v _ => true
  | .sl _ _ _ _ _ => true
  | .ref _ _ _ _ => true
  | .dead => true
  | _ => false
/-- A cell and what it is under the new names. -/
inductive ReC (S S2 : Store) (m : Nat → List Nat → Nat × List Nat) (r : Nat) (p : List Nat) (j : Nat) : T → T → Prop
  | v (x : Value) : ReC S S2 m r p j (.v x) (.v x)
  | fz {k n e : Nat} {cs : List T} : ReC S S2 m r p j (.sl false k n e cs) (.sl false k n e cs)
  | own {k k' n e : Nat} {cs cs' : List T} (hm : m r (p ++ [j]) = ((m r p).1, (m r p).2 ++ [j])) (hl : cs'.length = cs.length) : ReC S S2 m r p j (.sl true k n e cs) (.sl true k' n e cs')
  | nest {q n e k' : Nat} {p' : List Nat} {cs cs' : List T} (hq : S.at false q p' = some (e, cs)) (hm : m r (p ++ [j]) = (q, p')) (hl : cs'.length = n * e) : ReC S S2 m r p j (.ref q p' 0 n) (.sl true k' n e cs')
  | out {k n e q2 : Nat} {p2 : List Nat} {cs : List T} (hlt : q2 < S2.length) (hm : m q2 p2 = ((m r p).1, (m r p).2 ++ [j])) (he : ∀ e2 cs2, S2.at false q2 p2 = some (e2, cs2) → e2 = e) : ReC S S2 m r p j (.sl true k n e cs) (.ref q2 p2 0 n)
  | ref {q q2 off n : Nat} {p' p2 : List Nat} (h : q < S.length → q2 < S2.length ∧ ∀ e cs', S2.at false q2 p2 = some (e, cs') → (∃ cs, S.at false q p' = some (e, cs)) ∧ m q2 p2 = (q, p')) : ReC S S2 m r p j (.ref q p' off n) (.ref q2 p2 off n)
  | nil {q off k e : Nat} {p' : List Nat} (hq : ∃ x, S.at false q p' = some x) : ReC S S2 m r p j (.ref q p' off 0) (.sl false k 0 e [])
  | dead (c : T) : ReC S S2 m r p j c .dead
  | bad {c c' : T} (h : cellish c = false) : ReC S S2 m r p j c c'

structure Re (S S2 : Store) (m : Nat → List Nat → Nat × List Nat) : Prop where
  node : ∀ r p e cs', S2.at true r p = some (e, cs') → ∃ cs, S.at true (m r p).1 (m r p).2 = some (e, cs) ∧ cs'.length = cs.length ∧ ∀ j c', cs'[j]? = some c' → ∃ c, cs[j]? = some c ∧ ReC S S2 m r p j c c'
  inj : ∀ r p x r' p' x', S2.at true r p = some x → S2.at true r' p' = some x' → m r p = m r' p' → r = r' ∧ p = p'

/-- The names of nodes that are referred to. -/
def NmOk (S S2 : Store) (m : Nat → List Nat → Nat × List Nat) (f : NMap) : Prop :=
  ∀ r p x, r < S.length → f r p = some x → x.1 < S2.length ∧ ∀ e cs', S2.at false x.1 x.2 = some (e, cs') → (∃ cs, S.at false r p = some (e, cs)) ∧ m x.1 x.2 = (r, p)

def Env.re (E : Env) (S2 : Store) (m : Nat → List Nat → Nat × List Nat) : Env := { E with S := S2, φ := fun r p => E.φ (m r p).1 (m r p).2 }

section
variable {E : Env} {w0 : World} {S2 : Store} {m : Nat → List Nat → Nat × List Nat} {f : NMap}

theorem re_own (hr : Re E.S S2 m) {b : Nat} (h : (E.re S2 m).own b) : E.own b := by
  obtain ⟨r, p, x, hx, hb⟩ := h
  obtain ⟨cs, h1, _⟩ := hr.node r p x.1 x.2 hx
  exact ⟨_, _, _, h1, hb⟩
theorem re_okz (hr : Re E.S S2 m) {k b : Nat} (h : E.okz k b) : (E.re S2 m).okz k b := ⟨h.1, fun ho => h.2.1 (re_own hr ho), h.2.2⟩

theorem re_ref {q q2 off n : Nat} {p' p2 : List Nat} {v : Value} (h : q < E.S.length → q2 < S2.length ∧ ∀ e cs', S2.at false q2 p2 = some (e, cs') → (∃ cs, E.S.at false q p' = some (e, cs)) ∧ m q2 p2 = (q, p')) (ht : TR E (.ref q p' off n) v) : TR (E.re S2 m) (.ref q2 p2 off n) v := by
  cases ht with
  | ref hr hh =>
    obtain ⟨h1, h2⟩ := h hr
    refine .ref h1 fun e cs hx => ?_
    obtain ⟨⟨cs0, h3⟩, h4⟩ := h2 e cs hx
    show SlV E.w (E.φ (m q2 p2).1 (m q2 p2).2) e off n v
    rw [h4]
    exact hh e cs0 h3

theorem re_tr (hr : Re E.S S2 m) (hf : NmOk E.S S2 m f) : ∀ (t : T) (v : Value), TR E t v → TR (E.re S2 m) (reT f t) v
  | .v x, v, ht => by cases ht; exact .v _
  | .sl false k n e cs, v, ht => by
    cases ht with
    | sl hz => exact .sl (hz.evo fun b hb => ⟨re_okz hr hb, rfl⟩)
  | .sl true k n e cs, v, ht => by cases ht
  | .ref r p off n, v, ht => by
    simp only [reT]
    split
    · rename_i x hx
      exact re_ref (fun hlt => hf r p x hlt hx) ht
    · exact .dead _
  | .ptr r p off, v, ht => by
    simp only [reT]
    split
    · rename_i x hx
      cases ht with
      | ptr hlt hh =>
        obtain ⟨h1, h2⟩ := hf r p x hlt hx
        refine .ptr h1 fun y hy => ?_
        obtain ⟨⟨cs0, h3⟩, h4⟩ := h2 y.1 y.2 hy
        show v = .pointer (some ⟨E.φ (m x.1 x.2).1 (m x.1 x.2).2, off, none⟩)
        rw [h4]
        exact hh _ h3
    · exact .dead _
  | .pz k cs off, v, ht => by
    cases ht with
    | pz g hok hcell hrec => exact .pz g (re_okz hr hok) hcell (fun j c hj => (hrec j c hj).evo fun b hb => ⟨re_okz hr hb, rfl⟩)
  | .agg cs, v, ht => by
    cases ht with
    | agg hs hh =>
      rw [reT, reTs_map]
      refine .agg (by rw [List.length_map]; exact hs) fun i t hi => ?_
      rw [List.getElem?_map] at hi
      obtain ⟨c, hc, rfl⟩ := Option.map_eq_some_iff.1 hi
      exact re_tr hr hf c _ (hh i c hc)
  | .tup cs, v, ht => by
    cases ht with
    | tup hs hh =>
      rw [reT, reTs_map]
      refine .tup (by rw [List.length_map]; exact hs) fun i t hi => ?_
      rw [List.getElem?_map] at hi
      obtain ⟨c, hc, rfl⟩ := Option.map_eq_some_iff.1 hi
      exact re_tr hr hf c _ (hh i c hc)
  | .clo g cs, v, ht => by
    cases ht with
    | clo hs hh =>
      rw [reT, reTs_map]
      refine .clo (by rw [List.length_map]; exact hs) fun i t hi => ?_
      rw [List.getElem?_map] at hi
      obtain ⟨c, hc, rfl⟩ := Option.map_eq_some_iff.1 hi
      exact re_tr hr hf c _ (hh i c hc)
  | .dead, v, _ => .dead _
termination_by t => SizeOf.sizeOf t
decreasing_by
  all_goals
    have h1 := List.mem_of_getElem? hc
    have h2 := List.sizeOf_lt_of_mem h1
    simp only [T.agg.sizeOf_spec, T.tup.sizeOf_spec, T.clo.sizeOf_spec]
    omega

theorem re_inv (h : Inv E w0) (hr : Re E.S S2 m) : Inv (E.re S2 m) w0 := by
  refine ⟨h.below, h.hB, h.hN, fun r p e cs' hx => ?_, fun r p x r' p' x' hx hx' hb => ?_, fun r p x hx hlt => ?_⟩
  · obtain ⟨cs, h1, h2, h3⟩ := hr.node r p e cs' hx
    obtain ⟨arr, ty, mk, a1, a2, a3, a4, a5⟩ := h.blk _ _ e cs h1
    refine ⟨arr, ty, mk, a1, by rw [h2]; exact a2, a3, a4, fun j c' hc' => ?_⟩
    obtain ⟨c, hc, hrc⟩ := h3 j c' hc'
    have hcr := a5 j c hc
    cases hrc with
    | v x => cases hcr with | v _ hv => exact .v _ hv
    | fz => cases hcr with | fz hz => exact .fz (hz.evo fun b hb => ⟨re_okz hr hb, rfl⟩)
    | own hm hl => cases hcr with
      | own hn hv =>
        refine .own (hl.trans hn) ?_
        show SlV E.w (E.φ (m r (p ++ [j])).1 (m r (p ++ [j])).2) _ _ _ _
        rw [hm]; exact hv
    | nest hq hm hl => cases hcr with
      | ref hv ht => cases ht with
        | ref hlt hh =>
          refine .own hl ?_
          show SlV E.w (E.φ (m r (p ++ [j])).1 (m r (p ++ [j])).2) _ _ _ _
          rw [hm]; exact hh _ _ hq
    | out hlt hm he =>
      have ho := hcr.oneCell
      cases hcr with
      | own hn hv =>
        refine .ref ho (.ref hlt fun e2 cs2 hy => ?_)
        show SlV E.w (E.φ (m _ _).1 (m _ _).2) _ _ _ _
        rw [hm, he _ _ hy]; exact hv
    | ref hh => cases hcr with
      | ref hv ht => exact .ref hv (re_ref hh ht)
    | nil hq => cases hcr with
      | ref hv ht => cases ht with
        | ref hlt hh =>
          obtain ⟨x, hq⟩ := hq
          obtain ⟨cap, _, _, _, _, _, _, hval⟩ := hh x.1 x.2 hq
          rw [hval]
          exact .fz (.sl 0 0 (fun _ => undef) (by simp) (Nat.zero_le _) (.inl rfl) (fun j c h => by simp at h) (fun j c h => by simp at h))
    | dead => exact .dead _ hcr.oneCell
    | bad hb => cases hcr <;> simp [cellish] at hb
  · obtain ⟨c1, h1, _⟩ := hr.node r p x.1 x.2 hx
    obtain ⟨c2, h2, _⟩ := hr.node r' p' x'.1 x'.2 hx'
    have := h.inj _ _ _ _ _ _ h1 h2 hb
    exact hr.inj r p x r' p' x' hx hx' (Prod.ext this.1 this.2)
  · obtain ⟨c1, h1, _⟩ := hr.node r p x.1 x.2 hx
    exact h.frz _ _ _ h1 hlt

theorem re_evo {E0 : Env} (ev : Evo E0 E) (hr : Re E.S S2 m) (hl : E0.S.length ≤ S2.length) (hm : ∀ r p e cs', r < E0.S.length → S2.at false r p = some (e, cs') → m r p = (r, p) ∧ ∃ cs, E.S.at false r p = some (e, cs)) : Evo E0 (E.re S2 m) := by
  refine ⟨ev.B, ev.N, ev.K, hl, fun k b hb => ⟨re_okz hr (ev.fz k b hb).1, (ev.fz k b hb).2⟩, fun r p e cs' hlt hx => ?_⟩
  obtain ⟨h1, cs, h2⟩ := hm r p e cs' hlt hx
  obtain ⟨h3, h4, h5⟩ := ev.node r p e cs hlt h2
  refine ⟨h3, ?_, h5⟩
  show E.φ (m r p).1 (m r p).2 = _
  rw [h1]; exact h4
end

/-! ### Paths -/
def stripP : List Nat → List Nat → Option (List Nat)
  | [], l => some l
  | _ :: _, [] => none
  | a :: pre, b :: l => if a = b then stripP pre l else none
theorem stripP_app : ∀ pre s : List Nat, stripP pre (pre ++ s) = some s
  | [], _ => rfl
  | a :: pre, s => by simp [stripP, stripP_app pre s]
theorem stripP_some : ∀ {pre l s : List Nat}, stripP pre l = some s → l = pre ++ s
  | [], l, s, h => by simpa [stripP] using h
  | a :: pre, [], s, h => by simp [stripP] at h
  | a :: pre, b :: l, s, h => by
    unfold stripP at h
    split at h
    · rename_i e; subst e; rw [stripP_some h]; rfl
    · cases h
theorem stripP_none {pre l : List Nat} (h : ∀ s, l ≠ pre ++ s) : stripP pre l = none := by
  cases hs : stripP pre l with
  | none => rfl
  | some s => exact absurd (stripP_some hs) (h s)

/-- What the nodes are where one cell is written with a row of one's own. -/
theorem nest_nodes {any : Bool} {e e0 j : Nat} {X : T} {cs cs0 : List T} {p : List Nat} (hn : cellsAt true e cs p = some (e0, cs0)) (hno : ∀ k n e c, cs0[j]? ≠ some (.sl true k n e c)) {p2 : List Nat} {e' : Nat} {cs'' : List T}
    (h : cellsAt any e (updAt (·.set j X) cs p) p2 = some (e', cs'')) :
    (∃ s k n eq csq, p2 = (p ++ [j]) ++ s ∧ X = .sl true k n eq csq ∧ cellsAt any eq csq s = some (e', cs'')) ∨
    (stripP (p ++ [j]) p2 = none ∧ ∃ cs', cellsAt any e cs p2 = some (e', cs') ∧ cs''.length = cs'.length ∧ ∀ i c', cs''[i]? = some c' → (p2 = p ∧ i = j ∧ c' = X ∧ cs' = cs0) ∨
      (stripP (p ++ [j]) (p2 ++ [i]) = none ∧ ∃ c, cs'[i]? = some c ∧ (c' = c ∨ ∃ k n e c1 c2, c = .sl true k n e c1 ∧ c' = .sl true k n e c2 ∧ c2.length = c1.length))) := by
  rcases cellsAt_updAt p cs e e0 cs0 hn (by simp) p2 e' cs'' h with ⟨q2, rfl, h2, h3⟩ | ⟨cs', h1, h2, h3⟩
  · cases q2 with
    | nil =>
      simp only [cellsAt, Option.some.injEq, Prod.mk.injEq] at h2
      obtain ⟨rfl, rfl⟩ := h2
      refine .inr ⟨stripP_none fun s hs => ?_, cs0, ?_, by simp, fun i c' hc' => ?_⟩
      · rw [List.append_nil, List.append_assoc] at hs
        exact absurd (congrArg List.length hs) (by simp only [List.length_append, List.length_cons]; omega)
      · rw [List.append_nil]
        rcases h3 with h3 | h3
        · rw [h3]; exact hn
        · exact h3
      · rw [List.getElem?_set] at hc'
        split at hc'
        · rename_i ej
          subst ej
          split at hc'
          · cases hc'
            exact .inl ⟨by simp, rfl, rfl, rfl⟩
          · cases hc'
        · rename_i ej
          refine .inr ⟨stripP_none fun s hs => ?_, c', hc', .inl rfl⟩
          rw [List.append_nil, List.append_assoc] at hs
          have := List.append_cancel_left hs
          simp at this
          exact ej this.1.symm
    | cons i q2 =>
      by_cases ei : i = j
      · subst ei
        unfold cellsAt at h2
        rw [List.getElem?_set] at h2
        simp only [if_true] at h2
        split at h2
        case h_2 => cases h2
        rename_i k1 n1 e1 cs1 hh
        split at hh
        case isFalse => cases hh
        cases hh
        split at h2
        case isFalse => cases h2
        exact .inl ⟨q2, _, _, _, _, by simp, rfl, h2⟩
      · have hstr : ∀ x : List Nat, stripP (p ++ [j]) (p ++ i :: x) = none := fun x => stripP_none fun s hs => by
          rw [List.append_assoc] at hs
          have := List.append_cancel_left hs
          simp at this
          exact ei this.1
        refine .inr ⟨hstr q2, cs'', ?_, rfl, fun i' c' hc' => .inr ⟨by rw [List.append_assoc]; exact hstr _, c', hc', .inl rfl⟩⟩
        have hany : cellsAt any e cs p = some (e0, cs0) := by
          rcases h3 with h3 | h3
          · rw [h3]; exact hn
          · exact h3
        rw [cellsAt_append, hany, Option.bind_some]
        unfold cellsAt at h2 ⊢
        rw [List.getElem?_set_ne (Ne.symm ei)] at h2
        exact h2
  · have hstr : ∀ x, p2 ≠ (p ++ [j]) ++ x := fun x hx => h3 ([j] ++ x) (by rw [hx, List.append_assoc])
    refine .inr ⟨stripP_none hstr, cs', h1, h2.1.symm, fun i c' hc' => .inr ⟨stripP_none fun s hs => ?_, ?_⟩⟩
    · rcases List.eq_nil_or_concat s with rfl | ⟨s', x, rfl⟩
      · rw [List.append_nil] at hs
        have := List.append_inj_left' hs rfl
        exact h3 [] (by rw [this]; simp)
      · rw [List.concat_eq_append, ← List.append_assoc] at hs
        exact hstr s' (List.append_inj_left' hs rfl)
    · rcases h2.2 i c' hc' with h4 | ⟨k, n, e1, c1, c2, h4, rfl, h5⟩
      · exact ⟨c', h4, .inl rfl⟩
      · exact ⟨_, h4, .inr ⟨k, n, e1, c1, c2, rfl, rfl, h5⟩⟩

end Go.TL

/- A row of one's own put into a cell of another one, a row taken out of a cell: as steps that no code takes. No conditions. -/
namespace Go.TL
set_option linter.unusedSimpArgs false
open Go.RowKit

def rootAt (S : Store) (r : Nat) : Root := (S[r]?).getD ⟨0, false, []⟩
theorem at_root {any : Bool} {S : Store} {r : Nat} {p : List Nat} {x : Nat × List T} (h : S.at any r p = some x) : S[r]? = some (rootAt S r) ∧ (rootAt S r).live = true ∧ cellsAt any (rootAt S r).e (rootAt S r).cs p = some x := by
  unfold Store.at at h
  unfold rootAt
  cases hx : S[r]? with
  | none => rw [hx] at h; cases h
  | some y =>
    rw [hx] at h
    simp only at h
    split at h
    · rename_i hl; exact ⟨rfl, hl, h⟩
    · cases h
theorem root_at {any : Bool} {S : Store} {r : Nat} {p : List Nat} {x : Nat × List T} (hl : (rootAt S r).live = true) (h : cellsAt any (rootAt S r).e (rootAt S r).cs p = some x) : S.at any r p = some x := by
  unfold rootAt at *
  unfold Store.at
  cases hx : S[r]? with
  | none => rw [hx] at hl; simp at hl
  | some y =>
    rw [hx] at hl h
    simp only [Option.getD_some] at hl h
    simp only [hl, if_true]
    exact h

theorem reC_gen {S S2 : Store} {m : Nat → List Nat → Nat × List Nat} {f : NMap} {r : Nat} {p : List Nat} {j : Nat} (hf : NmOk S S2 m f) (hm : m r (p ++ [j]) = ((m r p).1, (m r p).2 ++ [j])) : ∀ c : T, ReC S S2 m r p j c (reT f c)
  | .v x => .v x
  | .sl false k n e cs => .fz
  | .sl true k n e cs => .own hm (reTs_length _ _)
  | .ref q p' off n => by
    simp only [reT]
    split
    · rename_i x hx
      exact .ref fun hlt => hf q p' x hlt hx
    · exact .dead _
  | .dead => .dead _
  | .ptr _ _ _ => .bad rfl
  | .pz _ _ _ => .bad rfl
  | .agg _ => .bad rfl
  | .tup _ => .bad rfl
  | .clo _ _ => .bad rfl

/-- Nothing is said of any root. -/
def deadS (S : Store) : Store := (S.map fun y => ⟨y.e, false, []⟩) ++ [⟨0, false, []⟩]
theorem deadS_length (S : Store) : (deadS S).length = S.length + 1 := by simp [deadS]
theorem deadS_at (S : Store) (any : Bool) (r : Nat) (p : List Nat) : (deadS S).at any r p = none := by
  unfold Store.at deadS
  rw [List.getElem?_append]
  split
  · rename_i x hx
    split at hx
    · rw [List.getElem?_map] at hx
      obtain ⟨y, _, rfl⟩ := Option.map_eq_some_iff.1 hx
      rfl
    · have := List.mem_of_getElem? hx
      simp at this
      subst this; rfl
  · rfl
theorem deadS_re (S : Store) (m : Nat → List Nat → Nat × List Nat) : Re S (deadS S) m :=
  ⟨fun r p e cs' h => absurd ((deadS_at S true r p).symm.trans h) (by simp), fun r p x r' p' x' h => absurd ((deadS_at S true r p).symm.trans h) (by simp)⟩

/-! ### A row is put into a cell -/
/-- A row of one's own in a cell; where it is empty it may be nil (b: it is not nil). -/
def ownB (b : Bool) (n e : Nat) (cs : List T) : T := if n = 0 ∧ b = false then .sl false 0 0 e [] else .sl true 0 n e cs
abbrev ownC (n e : Nat) (cs : List T) : T := ownB false n e cs
theorem ownB_own {b : Bool} {n e k n' e' : Nat} {cs cs' : List T} (h : ownB b n e cs = .sl true k n' e' cs') : ¬ (n = 0 ∧ b = false) ∧ k = 0 ∧ n' = n ∧ e' = e ∧ cs' = cs := by
  unfold ownB at h
  split at h
  · cases h
  · rename_i hn
    simp only [T.sl.injEq, true_and] at h
    exact ⟨hn, h.1.symm, h.2.1.symm, h.2.2.1.symm, h.2.2.2.symm⟩
theorem reT_ownB (f : NMap) (b : Bool) (n e : Nat) (cs : List T) : reT f (ownB b n e cs) = ownB b n e (reTs f cs) := by
  unfold ownB
  split
  · rfl
  · rw [reT]
def nestF (r : Nat) (p : List Nat) (j q N : Nat) : NMap := fun r0 p0 => if r0 = r then (match stripP (p ++ [j]) p0 with | some _ => none | none => some (N, p0)) else if r0 = q then some (N, (p ++ [j]) ++ p0) else some (r0, p0)
def nestM (r : Nat) (p : List Nat) (j q N : Nat) : Nat → List Nat → Nat × List Nat := fun r2 p2 => if r2 = N then (match stripP (p ++ [j]) p2 with | some s => (q, s) | none => (r, p2)) else (r2, p2)
def nestS (b : Bool) (r : Nat) (p : List Nat) (j q : Nat) (S : Store) : Store :=
  match S.at false r p with
  | some (_, cs) => match cs[j]? with
    | some (.ref q' [] 0 n) => if q' = q ∧ q ≠ r ∧ (rootAt S q).live = true ∧ (rootAt S q).cs.length = n * (rootAt S q).e then
        reS (nestF r p j q S.length) ((S.kill r).kill q ++ [⟨(rootAt S r).e, true, updAt (·.set j (ownB b n (rootAt S q).e (rootAt S q).cs)) (rootAt S r).cs p⟩])
      else deadS S
    | _ => deadS S
  | none => deadS S

section
variable {S : Store} {b : Bool} {r : Nat} {p : List Nat} {j q n e0 : Nat} {cs0 : List T}

theorem nest_split (h1 : S.at false r p = some (e0, cs0)) (h2 : cs0[j]? = some (.ref q [] 0 n)) (_h3 : q ≠ r) (h4 : (rootAt S q).live = true) {any : Bool} {r2 : Nat} {p2 : List Nat} {e' : Nat} {cs'' : List T}
    (h : (reS (nestF r p j q S.length) ((S.kill r).kill q ++ [⟨(rootAt S r).e, true, updAt (·.set j (ownB b n (rootAt S q).e (rootAt S q).cs)) (rootAt S r).cs p⟩])).at any r2 p2 = some (e', cs'')) :
    (r2 = S.length ∧ ∃ s, p2 = (p ++ [j]) ++ s ∧ ∃ cs1, S.at any q s = some (e', cs1) ∧ cs'' = reTs (nestF r p j q S.length) cs1) ∨
    (r2 = S.length ∧ stripP (p ++ [j]) p2 = none ∧ ∃ cs', S.at any r p2 = some (e', cs') ∧ cs''.length = cs'.length ∧ ∀ i c'', cs''[i]? = some c'' →
      (p2 = p ∧ i = j ∧ c'' = ownB b n (rootAt S q).e (reTs (nestF r p j q S.length) (rootAt S q).cs) ∧ cs' = cs0) ∨
      (stripP (p ++ [j]) (p2 ++ [i]) = none ∧ ∃ c c', cs'[i]? = some c ∧ c'' = reT (nestF r p j q S.length) c' ∧ (c' = c ∨ ∃ k n e c1 c2, c = .sl true k n e c1 ∧ c' = .sl true k n e c2 ∧ c2.length = c1.length))) ∨
    (r2 ≠ S.length ∧ r2 ≠ r ∧ r2 ≠ q ∧ ∃ cs1, S.at any r2 p2 = some (e', cs1) ∧ cs'' = reTs (nestF r p j q S.length) cs1) := by
  rw [reS_at] at h
  obtain ⟨⟨e1, cs1⟩, hx, hy⟩ := Option.map_eq_some_iff.1 h
  simp only [Prod.mk.injEq] at hy
  obtain ⟨rfl, rfl⟩ := hy
  rw [Store.at_push, Store.kill_length, Store.kill_length] at hx
  obtain ⟨g1, g2, g3⟩ := at_root h1
  split at hx
  · rename_i er
    simp only [if_true] at hx
    rcases nest_nodes (cellsAt_any g3) (fun k n e c hc => by rw [h2] at hc; cases hc) hx with ⟨s, k, n', eq, csq, k1, k2, k3⟩ | ⟨k1, cs', k2, k3, k4⟩
    · obtain ⟨_, _, _, rfl, rfl⟩ := ownB_own k2
      exact .inl ⟨er, s, k1, cs1, root_at h4 k3, rfl⟩
    · refine .inr (.inl ⟨er, k1, cs', root_at g2 k2, by rw [reTs_length]; exact k3, fun i c'' hc => ?_⟩)
      rw [reTs_map, List.getElem?_map] at hc
      obtain ⟨c', hc', rfl⟩ := Option.map_eq_some_iff.1 hc
      rcases k4 i c' hc' with ⟨l1, l2, rfl, l4⟩ | ⟨l1, c, l2, l3⟩
      · exact .inl ⟨l1, l2, reT_ownB _ _ _ _ _, l4⟩
      · exact .inr ⟨l1, c, c', l2, rfl, l3⟩
  · rename_i er
    rw [Store.at_kill] at hx
    split at hx
    · cases hx
    · rename_i e2
      rw [Store.at_kill] at hx
      split at hx
      · cases hx
      · rename_i e3
        exact .inr (.inr ⟨er, e3, e2, cs1, hx, rfl⟩)

theorem nest_ok (h1 : S.at false r p = some (e0, cs0)) (h2 : cs0[j]? = some (.ref q [] 0 n)) (h3 : q ≠ r) (h4 : (rootAt S q).live = true) :
    NmOk S (reS (nestF r p j q S.length) ((S.kill r).kill q ++ [⟨(rootAt S r).e, true, updAt (·.set j (ownB b n (rootAt S q).e (rootAt S q).cs)) (rootAt S r).cs p⟩])) (nestM r p j q S.length) (nestF r p j q S.length) := by
  intro r0 p0 x hlt hx
  have hlen : (reS (nestF r p j q S.length) ((S.kill r).kill q ++ [⟨(rootAt S r).e, true, updAt (·.set j (ownB b n (rootAt S q).e (rootAt S q).cs)) (rootAt S r).cs p⟩])).length = S.length + 1 := by
    rw [reS_length, List.length_append, Store.kill_length, Store.kill_length]; rfl
  unfold nestF at hx
  split at hx
  · rename_i er
    subst er
    split at hx
    · cases hx
    · rename_i hs
      cases hx
      refine ⟨by rw [hlen]; exact Nat.lt_succ_self _, fun e cs' hy => ?_⟩
      rcases nest_split h1 h2 h3 h4 hy with ⟨_, s, k1, _⟩ | ⟨_, k1, cs2, k2, _⟩ | ⟨k1, _⟩
      · simp only at k1; rw [k1, stripP_app] at hs; cases hs
      · exact ⟨⟨cs2, k2⟩, by simp only [nestM, if_true]; rw [hs]⟩
      · exact absurd rfl k1
  · rename_i er
    split at hx
    · rename_i eq
      subst eq
      cases hx
      refine ⟨by rw [hlen]; exact Nat.lt_succ_self _, fun e cs' hy => ?_⟩
      rcases nest_split h1 h2 h3 h4 hy with ⟨_, s, k1, cs2, k2, _⟩ | ⟨_, k1, _⟩ | ⟨k1, _⟩
      · simp only at k1
        have := List.append_cancel_left k1
        subst this
        exact ⟨⟨cs2, k2⟩, by simp only [nestM, if_true]; rw [stripP_app]⟩
      · simp only [stripP_app] at k1; cases k1
      · exact absurd rfl k1
    · rename_i eq
      cases hx
      refine ⟨by rw [hlen]; exact Nat.lt_succ_of_lt hlt, fun e cs' hy => ?_⟩
      rcases nest_split h1 h2 h3 h4 hy with ⟨k1, _⟩ | ⟨k1, _⟩ | ⟨k1, _, _, cs2, k2, _⟩
      · simp only at k1; omega
      · simp only at k1; omega
      · exact ⟨⟨cs2, k2⟩, by simp only at k1; simp only [nestM, if_neg k1]⟩

theorem nest_re (h1 : S.at false r p = some (e0, cs0)) (h2 : cs0[j]? = some (.ref q [] 0 n)) (h3 : q ≠ r) (h4 : (rootAt S q).live = true) (h5 : (rootAt S q).cs.length = n * (rootAt S q).e) :
    Re S (reS (nestF r p j q S.length) ((S.kill r).kill q ++ [⟨(rootAt S r).e, true, updAt (·.set j (ownB b n (rootAt S q).e (rootAt S q).cs)) (rootAt S r).cs p⟩])) (nestM r p j q S.length) := by
  have hok := nest_ok (b := b) h1 h2 h3 h4
  refine ⟨fun r2 p2 e cs'' hx => ?_, fun r2 p2 x r2' p2' x' hx hx' hm => ?_⟩
  · rcases nest_split h1 h2 h3 h4 hx with ⟨rfl, s, rfl, cs1, k1, rfl⟩ | ⟨rfl, k0, cs', k1, k2, k3⟩ | ⟨k0, k1, k2, cs1, k3, rfl⟩
    · have em : nestM r p j q S.length S.length ((p ++ [j]) ++ s) = (q, s) := by simp only [nestM, if_true]; rw [stripP_app]
      refine ⟨cs1, by rw [em]; exact k1, reTs_length _ _, fun i c' hc => ?_⟩
      rw [reTs_map, List.getElem?_map] at hc
      obtain ⟨c, hc', rfl⟩ := Option.map_eq_some_iff.1 hc
      refine ⟨c, hc', reC_gen hok ?_ c⟩
      rw [em, List.append_assoc]
      simp only [nestM, if_true]
      rw [stripP_app]
    · have em : nestM r p j q S.length S.length p2 = (r, p2) := by simp only [nestM, if_true]; rw [k0]
      refine ⟨cs', by rw [em]; exact k1, k2, fun i c' hc => ?_⟩
      rcases k3 i c' hc with ⟨rfl, rfl, rfl, rfl⟩ | ⟨l1, c, c1, l2, rfl, l3⟩
      · refine ⟨_, h2, ?_⟩
        unfold ownB
        split
        · rename_i hn0
          obtain ⟨hn0, _⟩ := hn0
          subst hn0
          exact .nil ⟨((rootAt S q).e, (rootAt S q).cs), root_at h4 rfl⟩
        refine .nest (cs := (rootAt S q).cs) (root_at h4 rfl) ?_ (by rw [reTs_length]; exact h5)
        simp only [nestM, if_true]
        have := stripP_app (p2 ++ [i]) []
        rw [List.append_nil] at this
        rw [this]
      · have em2 : nestM r p j q S.length S.length (p2 ++ [i]) = (r, p2 ++ [i]) := by simp only [nestM, if_true]; rw [l1]
        refine ⟨c, l2, ?_⟩
        rcases l3 with rfl | ⟨k, n, e, c1, c2, rfl, rfl, l4⟩
        · exact reC_gen hok (by rw [em, em2]) _
        · rw [reT]
          exact .own (by rw [em, em2]) (by rw [reTs_length]; exact l4)
    · have em : ∀ x, nestM r p j q S.length r2 x = (r2, x) := fun x => by simp only [nestM, if_neg k0]
      refine ⟨cs1, by rw [em]; exact k3, reTs_length _ _, fun i c' hc => ?_⟩
      rw [reTs_map, List.getElem?_map] at hc
      obtain ⟨c, hc', rfl⟩ := Option.map_eq_some_iff.1 hc
      exact ⟨c, hc', reC_gen hok (by rw [em, em]) c⟩
  · have key : ∀ {r2 p2 x}, (reS (nestF r p j q S.length) ((S.kill r).kill q ++ [⟨(rootAt S r).e, true, updAt (·.set j (ownB b n (rootAt S q).e (rootAt S q).cs)) (rootAt S r).cs p⟩])).at true r2 p2 = some x →
        (r2 = S.length ∧ ∃ s, p2 = (p ++ [j]) ++ s ∧ nestM r p j q S.length r2 p2 = (q, s)) ∨ (r2 = S.length ∧ nestM r p j q S.length r2 p2 = (r, p2)) ∨ (r2 ≠ r ∧ r2 ≠ q ∧ nestM r p j q S.length r2 p2 = (r2, p2)) := by
      intro r2 p2 x hx
      rcases nest_split h1 h2 h3 h4 (e' := x.1) (cs'' := x.2) hx with ⟨rfl, s, rfl, cs1, k1, _⟩ | ⟨rfl, k0, cs', k1, k2, k3⟩ | ⟨k0, k1, k2, cs1, k3, _⟩
      · exact .inl ⟨rfl, s, rfl, by simp only [nestM, if_true]; rw [stripP_app]⟩
      · exact .inr (.inl ⟨rfl, by simp only [nestM, if_true]; rw [k0]⟩)
      · exact .inr (.inr ⟨k1, k2, by simp only [nestM, if_neg k0]⟩)
    rcases key hx with ⟨a1, s, a2, a3⟩ | ⟨a1, a3⟩ | ⟨a1, a2, a3⟩ <;> rcases key hx' with ⟨b1, s', b2, b3⟩ | ⟨b1, b3⟩ | ⟨b1, b2, b3⟩ <;> rw [a3, b3] at hm <;> simp only [Prod.mk.injEq] at hm
    · exact ⟨a1.trans b1.symm, by rw [a2, b2, hm.2]⟩
    · exact absurd hm.1 h3
    · exact absurd hm.1.symm b2
    · exact absurd hm.1.symm h3
    · exact ⟨a1.trans b1.symm, hm.2⟩
    · exact absurd hm.1.symm b1
    · exact absurd hm.1 a2
    · exact absurd hm.1 a1
    · exact hm
end

theorem nestS_length (b : Bool) (r : Nat) (p : List Nat) (j q : Nat) (S : Store) : (nestS b r p j q S).length = S.length + 1 := by
  unfold nestS
  split
  · split
    · split
      · rw [reS_length, List.length_append, Store.kill_length, Store.kill_length]; rfl
      · exact deadS_length S
    · exact deadS_length S
  · exact deadS_length S

theorem dead_nm (S : Store) (m : Nat → List Nat → Nat × List Nat) {f : NMap} (hf : ∀ r p x, r < S.length → f r p = some x → x.1 < S.length + 1) : NmOk S (deadS S) m f :=
  fun r p x hlt hx => ⟨by rw [deadS_length]; exact hf r p x hlt hx, fun e cs' hy => by rw [deadS_at] at hy; cases hy⟩

theorem nestF_lt {r : Nat} {p : List Nat} {j q N : Nat} {r0 : Nat} {p0 : List Nat} {x : Nat × List Nat} (hlt : r0 < N) (h : nestF r p j q N r0 p0 = some x) : x.1 < N + 1 := by
  unfold nestF at h
  split at h
  · split at h
    · cases h
    · cases h; exact Nat.lt_succ_self _
  · split at h
    · cases h; exact Nat.lt_succ_self _
    · cases h; exact Nat.lt_succ_of_lt hlt

/-- The step, whatever the roots. -/
theorem nest_env {E E0 : Env} {w0 : World} (h : Inv E w0) (ev : Evo E0 E) (b : Bool) (r : Nat) (p : List Nat) (j q : Nat) :
    ∃ E2, E2.w = E.w ∧ E2.S = nestS b r p j q E.S ∧ Inv E2 w0 ∧ Evo E0 E2 ∧ ∀ t v, TR E t v → TR E2 (reT (nestF r p j q E.S.length) t) v := by
  have dead : nestS b r p j q E.S = deadS E.S → ∃ E2, E2.w = E.w ∧ E2.S = nestS b r p j q E.S ∧ Inv E2 w0 ∧ Evo E0 E2 ∧ ∀ t v, TR E t v → TR E2 (reT (nestF r p j q E.S.length) t) v := fun hd => by
    rw [hd]
    have hre := deadS_re E.S (nestM r p j q E.S.length)
    exact ⟨E.re (deadS E.S) _, rfl, rfl, re_inv h hre, re_evo (S2 := deadS E.S) ev hre (by rw [deadS_length]; exact Nat.le_succ_of_le ev.len) (fun r p e cs' _ hx => by rw [deadS_at] at hx; cases hx), fun t v ht => re_tr hre (dead_nm _ _ fun r0 p0 x hlt hx => nestF_lt hlt hx) t v ht⟩
  cases h1 : E.S.at false r p with
  | none => exact dead (by unfold nestS; rw [h1])
  | some x =>
    obtain ⟨e0, cs0⟩ := x
    by_cases hc : ∃ n, cs0[j]? = some (.ref q [] 0 n) ∧ q ≠ r ∧ (rootAt E.S q).live = true ∧ (rootAt E.S q).cs.length = n * (rootAt E.S q).e
    · obtain ⟨n, h2, h3, h4, h5⟩ := hc
      have hS : nestS b r p j q E.S = reS (nestF r p j q E.S.length) ((E.S.kill r).kill q ++ [⟨(rootAt E.S r).e, true, updAt (·.set j (ownB b n (rootAt E.S q).e (rootAt E.S q).cs)) (rootAt E.S r).cs p⟩]) := by
        unfold nestS
        simp only [h1, h2]
        rw [if_pos ⟨trivial, h3, h4, h5⟩]
      have hre := nest_re (b := b) h1 h2 h3 h4 h5
      rw [hS]
      refine ⟨E.re _ _, rfl, rfl, re_inv h hre, re_evo (S2 := reS _ _) ev hre (by rw [reS_length, List.length_append, Store.kill_length, Store.kill_length]; exact Nat.le_add_right_of_le ev.len) (fun r2 p2 e cs' hlt hx => ?_), fun t v ht => re_tr hre (nest_ok (b := b) h1 h2 h3 h4) t v ht⟩
      have hl := ev.len
      rcases nest_split h1 h2 h3 h4 hx with ⟨k1, _⟩ | ⟨k1, _⟩ | ⟨k1, _, _, cs2, k2, _⟩
      · omega
      · omega
      · exact ⟨by simp only [nestM, if_neg k1], cs2, k2⟩
    · refine dead ?_
      unfold nestS
      simp only [h1]
      split
      · rename_i q' n hq
        split
        · rename_i hcc
          obtain ⟨rfl, k2, k3, k4⟩ := hcc
          exact absurd ⟨n, hq, k2, k3, k4⟩ hc
        · rfl
      · rfl

/-! ### A row is taken out of a cell -/
def outF (r : Nat) (p : List Nat) (j N : Nat) : NMap := fun r0 p0 => if r0 = r then (match stripP (p ++ [j]) p0 with | some s => some (N, s) | none => some (r, p0)) else some (r0, p0)
def outM (r : Nat) (p : List Nat) (j N : Nat) : Nat → List Nat → Nat × List Nat := fun r2 p2 => if r2 = N then (r, (p ++ [j]) ++ p2) else (r2, p2)
def outS (r : Nat) (p : List Nat) (j : Nat) (S : Store) : Store :=
  match S.at false r p with
  | some (_, cs) => match cs[j]? with
    | some (.sl true 0 n e cs1) => S.upd r p (·.set j (.ref S.length [] 0 n)) ++ [⟨e, true, cs1⟩]
    | _ => deadS S
  | none => deadS S

section
variable {S : Store} {r : Nat} {p : List Nat} {j n e e0 : Nat} {cs0 cs1 : List T}

theorem out_split (h1 : S.at false r p = some (e0, cs0)) (h2 : cs0[j]? = some (.sl true 0 n e cs1)) {any : Bool} {r2 : Nat} {p2 : List Nat} {e' : Nat} {cs'' : List T}
    (h : (S.upd r p (·.set j (.ref S.length [] 0 n)) ++ [(⟨e, true, cs1⟩ : Root)]).at any r2 p2 = some (e', cs'')) :
    (r2 = S.length ∧ S.at any r ((p ++ [j]) ++ p2) = some (e', cs'')) ∨
    (r2 ≠ S.length ∧ (∀ s, ¬ (r2 = r ∧ p2 = (p ++ [j]) ++ s)) ∧ ∃ cs', S.at any r2 p2 = some (e', cs') ∧ cs''.length = cs'.length ∧ ∀ i c'', cs''[i]? = some c'' → (r2 = r ∧ p2 = p ∧ i = j ∧ c'' = .ref S.length [] 0 n ∧ cs' = cs0) ∨
      (∃ c, cs'[i]? = some c ∧ (c'' = c ∨ ∃ k n e c1 c2, c = .sl true k n e c1 ∧ c'' = .sl true k n e c2 ∧ c2.length = c1.length))) := by
  have hany : ∀ any, S.at any r p = some (e0, cs0) := fun any => by
    cases any
    · exact h1
    · exact Store.at_any h1
  have hr := Store.at_lt h1
  rw [Store.at_push, Store.upd_length] at h
  split at h
  · rename_i er
    simp only [if_true] at h
    refine .inl ⟨er, ?_⟩
    rw [List.append_assoc, Store.at_append, hany any, Option.bind_some]
    show cellsAt any e0 cs0 (j :: p2) = _
    unfold cellsAt
    rw [h2]
    simp only [beq_self_eq_true, Bool.or_true, if_true]
    exact h
  · rename_i er
    refine .inr ⟨er, ?_⟩
    rcases Store.at_upd (Store.at_any h1) (f := (·.set j (.ref S.length [] 0 n))) (by simp) h with ⟨rfl, q2, rfl, k2, k3⟩ | ⟨cs', k1, k2, k3⟩
    · cases q2 with
      | nil =>
        simp only [cellsAt, Option.some.injEq, Prod.mk.injEq] at k2
        obtain ⟨rfl, rfl⟩ := k2
        refine ⟨fun s hs => ?_, cs0, by rw [List.append_nil]; exact hany any, by simp, fun i c' hc' => ?_⟩
        · have := hs.2
          rw [List.append_nil, List.append_assoc] at this
          exact absurd (congrArg List.length this) (by simp only [List.length_append, List.length_cons]; omega)
        · rw [List.getElem?_set] at hc'
          split at hc'
          · rename_i ej
            subst ej
            split at hc'
            · cases hc'
              exact .inl ⟨rfl, by simp, rfl, rfl, rfl⟩
            · cases hc'
          · exact .inr ⟨c', hc', .inl rfl⟩
      | cons i q2 =>
        by_cases ei : i = j
        · subst ei
          unfold cellsAt at k2
          rw [List.getElem?_set] at k2
          simp only [if_true] at k2
          split at k2
          case h_2 => cases k2
          rename_i hh
          split at hh
          · cases hh
          · cases hh
        · refine ⟨fun s hs => ?_, cs'', ?_, rfl, fun i' c' hc' => .inr ⟨c', hc', .inl rfl⟩⟩
          · have := hs.2
            rw [List.append_assoc] at this
            have := List.append_cancel_left this
            simp at this
            exact ei this.1
          · rw [Store.at_append, hany any, Option.bind_some]
            unfold cellsAt at k2 ⊢
            rw [List.getElem?_set_ne (Ne.symm ei)] at k2
            exact k2
    · refine ⟨fun s hs => k3 ([j] ++ s) ⟨hs.1, by rw [hs.2, List.append_assoc]⟩, cs', k1, k2.1.symm, fun i c' hc' => .inr ?_⟩
      rcases k2.2 i c' hc' with h4 | ⟨k, n, e1, c1, c2, h4, rfl, h5⟩
      · exact ⟨c', h4, .inl rfl⟩
      · exact ⟨_, h4, .inr ⟨k, n, e1, c1, c2, rfl, rfl, h5⟩⟩

theorem out_ok (h1 : S.at false r p = some (e0, cs0)) (h2 : cs0[j]? = some (.sl true 0 n e cs1)) : NmOk S (S.upd r p (·.set j (.ref S.length [] 0 n)) ++ [(⟨e, true, cs1⟩ : Root)]) (outM r p j S.length) (outF r p j S.length) := by
  intro r0 p0 x hlt hx
  have hr := Store.at_lt h1
  have hlen : (S.upd r p (·.set j (.ref S.length [] 0 n)) ++ [(⟨e, true, cs1⟩ : Root)]).length = S.length + 1 := by rw [List.length_append, Store.upd_length]; rfl
  unfold outF at hx
  split at hx
  · rename_i er
    subst er
    split at hx
    · rename_i s hs
      cases hx
      refine ⟨by rw [hlen]; exact Nat.lt_succ_self _, fun e cs' hy => ?_⟩
      rcases out_split h1 h2 hy with ⟨_, k2⟩ | ⟨k1, _⟩
      · rw [stripP_some hs]
        exact ⟨⟨_, k2⟩, by simp only [outM, if_true]⟩
      · exact absurd rfl k1
    · rename_i hs
      cases hx
      refine ⟨by rw [hlen]; exact Nat.lt_succ_of_lt hlt, fun e cs' hy => ?_⟩
      rcases out_split h1 h2 hy with ⟨k1, k2⟩ | ⟨k1, _, cs2, k2, _⟩
      · simp only at k1; omega
      · simp only at k1; exact ⟨⟨cs2, k2⟩, by simp only [outM, if_neg k1]⟩
  · cases hx
    refine ⟨by rw [hlen]; exact Nat.lt_succ_of_lt hlt, fun e cs' hy => ?_⟩
    rcases out_split h1 h2 hy with ⟨k1, k2⟩ | ⟨k1, _, cs2, k2, _⟩
    · simp only at k1; omega
    · simp only at k1; exact ⟨⟨cs2, k2⟩, by simp only [outM, if_neg k1]⟩

/-- Cells that stay as they are. -/
theorem out_id (h1 : S.at false r p = some (e0, cs0)) (h2 : cs0[j]? = some (.sl true 0 n e cs1)) {r2 : Nat} {p2 : List Nat} {i : Nat} (hm : outM r p j S.length r2 (p2 ++ [i]) = ((outM r p j S.length r2 p2).1, (outM r p j S.length r2 p2).2 ++ [i])) : ∀ c : T, ReC S (S.upd r p (·.set j (.ref S.length [] 0 n)) ++ [(⟨e, true, cs1⟩ : Root)]) (outM r p j S.length) r2 p2 i c c
  | .v x => .v x
  | .sl false k n e cs => .fz
  | .sl true k n e cs => .own hm rfl
  | .ref q p' off n => .ref fun hlt => ⟨by rw [List.length_append, Store.upd_length]; exact Nat.lt_succ_of_lt hlt, fun e cs' hy => by
    rcases out_split h1 h2 hy with ⟨k1, _⟩ | ⟨k1, _, cs2, k2, _⟩
    · omega
    · exact ⟨⟨cs2, k2⟩, by simp only [outM, if_neg k1]⟩⟩
  | .dead => .dead _
  | .ptr _ _ _ => .bad rfl
  | .pz _ _ _ => .bad rfl
  | .agg _ => .bad rfl
  | .tup _ => .bad rfl
  | .clo _ _ => .bad rfl

theorem out_re (h1 : S.at false r p = some (e0, cs0)) (h2 : cs0[j]? = some (.sl true 0 n e cs1)) : Re S (S.upd r p (·.set j (.ref S.length [] 0 n)) ++ [(⟨e, true, cs1⟩ : Root)]) (outM r p j S.length) := by
  have hr := Store.at_lt h1
  refine ⟨fun r2 p2 e' cs'' hx => ?_, fun r2 p2 x r2' p2' x' hx hx' hm => ?_⟩
  · rcases out_split h1 h2 hx with ⟨rfl, k1⟩ | ⟨k0, kn, cs', k1, k2, k3⟩
    · refine ⟨cs'', by simp only [outM, if_true]; exact k1, rfl, fun i c hc => ⟨c, hc, out_id h1 h2 (by simp only [outM, if_true, List.append_assoc]) c⟩⟩
    · have em : ∀ x, outM r p j S.length r2 x = (r2, x) := fun x => by simp only [outM, if_neg k0]
      refine ⟨cs', by rw [em]; exact k1, k2, fun i c' hc => ?_⟩
      rcases k3 i c' hc with ⟨rfl, rfl, rfl, rfl, rfl⟩ | ⟨c, l2, l3⟩
      · refine ⟨_, h2, .out (by rw [List.length_append, Store.upd_length]; exact Nat.lt_succ_self _) ?_ fun e2 cs2 hy => ?_⟩
        · rw [em]; simp only [outM, if_true, List.append_nil]
        · rcases out_split h1 h2 hy with ⟨_, k4⟩ | ⟨k4, _⟩
          · rw [List.append_nil, Store.at_append, h1, Option.bind_some] at k4
            unfold cellsAt at k4
            rw [h2] at k4
            simp only [Bool.false_or, beq_self_eq_true, if_true, cellsAt, Option.some.injEq, Prod.mk.injEq] at k4
            exact k4.1.symm
          · exact absurd rfl k4
      · refine ⟨c, l2, ?_⟩
        rcases l3 with rfl | ⟨k, n, e, c1, c2, rfl, rfl, l4⟩
        · exact out_id h1 h2 (by rw [em, em]) _
        · exact .own (by rw [em, em]) l4
  · have key : ∀ {r2 p2 x}, (S.upd r p (·.set j (.ref S.length [] 0 n)) ++ [(⟨e, true, cs1⟩ : Root)]).at true r2 p2 = some x →
        (r2 = S.length ∧ outM r p j S.length r2 p2 = (r, (p ++ [j]) ++ p2)) ∨ ((∀ s, ¬ (r2 = r ∧ p2 = (p ++ [j]) ++ s)) ∧ outM r p j S.length r2 p2 = (r2, p2)) := by
      intro r2 p2 x hx
      rcases out_split h1 h2 (e' := x.1) (cs'' := x.2) hx with ⟨rfl, k1⟩ | ⟨k0, kn, _⟩
      · exact .inl ⟨rfl, by simp only [outM, if_true]⟩
      · exact .inr ⟨kn, by simp only [outM, if_neg k0]⟩
    rcases key hx with ⟨a1, a3⟩ | ⟨a1, a3⟩ <;> rcases key hx' with ⟨b1, b3⟩ | ⟨b1, b3⟩ <;> rw [a3, b3] at hm <;> simp only [Prod.mk.injEq] at hm
    · exact ⟨a1.trans b1.symm, List.append_cancel_left hm.2⟩
    · exact absurd ⟨hm.1.symm, hm.2.symm⟩ (b1 p2)
    · exact absurd hm (a1 p2')
    · exact hm
end

theorem outS_length (r : Nat) (p : List Nat) (j : Nat) (S : Store) : (outS r p j S).length = S.length + 1 := by
  unfold outS
  split
  · split
    · rw [List.length_append, Store.upd_length]; rfl
    · exact deadS_length S
  · exact deadS_length S
theorem outF_lt {r : Nat} {p : List Nat} {j N : Nat} {r0 : Nat} {p0 : List Nat} {x : Nat × List Nat} (hlt : r0 < N) (h : outF r p j N r0 p0 = some x) : x.1 < N + 1 := by
  unfold outF at h
  split at h
  · split at h
    · cases h; exact Nat.lt_succ_self _
    · rename_i er _ _; cases h; rw [← er]; exact Nat.lt_succ_of_lt hlt
  · cases h; exact Nat.lt_succ_of_lt hlt

/-- The step, whatever the roots. -/
theorem out_env {E E0 : Env} {w0 : World} (h : Inv E w0) (ev : Evo E0 E) (r : Nat) (p : List Nat) (j : Nat) :
    ∃ E2, E2.w = E.w ∧ E2.S = outS r p j E.S ∧ Inv E2 w0 ∧ Evo E0 E2 ∧ ∀ t v, TR E t v → TR E2 (reT (outF r p j E.S.length) t) v := by
  have dead : outS r p j E.S = deadS E.S → ∃ E2, E2.w = E.w ∧ E2.S = outS r p j E.S ∧ Inv E2 w0 ∧ Evo E0 E2 ∧ ∀ t v, TR E t v → TR E2 (reT (outF r p j E.S.length) t) v := fun hd => by
    rw [hd]
    have hre := deadS_re E.S (outM r p j E.S.length)
    exact ⟨E.re (deadS E.S) _, rfl, rfl, re_inv h hre, re_evo (S2 := deadS E.S) ev hre (by rw [deadS_length]; exact Nat.le_succ_of_le ev.len) (fun r p e cs' _ hx => by rw [deadS_at] at hx; cases hx), fun t v ht => re_tr hre (dead_nm _ _ fun r0 p0 x hlt hx => outF_lt hlt hx) t v ht⟩
  cases h1 : E.S.at false r p with
  | none => exact dead (by unfold outS; rw [h1])
  | some x =>
    obtain ⟨e0, cs0⟩ := x
    by_cases hc : ∃ n e cs1, cs0[j]? = some (.sl true 0 n e cs1)
    · obtain ⟨n, e, cs1, h2⟩ := hc
      have hS : outS r p j E.S = E.S.upd r p (·.set j (.ref E.S.length [] 0 n)) ++ [⟨e, true, cs1⟩] := by
        unfold outS
        simp only [h1, h2]
      have hre := out_re h1 h2
      rw [hS]
      refine ⟨E.re _ _, rfl, rfl, re_inv h hre, re_evo ev hre (by rw [List.length_append, Store.upd_length]; exact Nat.le_add_right_of_le ev.len) (fun r2 p2 e cs' hlt hx => ?_), fun t v ht => re_tr hre (out_ok h1 h2) t v ht⟩
      have hl := ev.len
      rcases out_split h1 h2 hx with ⟨k1, _⟩ | ⟨k1, _, cs2, k2, _⟩
      · omega
      · exact ⟨by simp only [outM, if_neg k1], cs2, k2⟩
    · refine dead ?_
      unfold outS
      simp only [h1]
      split
      · rename_i n e cs1 hq
        exact absurd ⟨n, e, cs1, hq⟩ hc
      · rfl

end Go.TL
