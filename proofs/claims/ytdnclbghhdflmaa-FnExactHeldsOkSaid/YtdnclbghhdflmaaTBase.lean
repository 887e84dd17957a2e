/- The trees that stand for Go values, the roots that stand for a call's own memory, and what both say of a world of the model. No conditions. -/
import Derived.Below
import Derived.Orders
namespace Go.TL
open Go.RowKit

inductive T where
  | v (x : Value)
  | sl (own : Bool) (k n e : Nat) (cs : List T)
  | ref (r : Nat) (p : List Nat) (off n : Nat)
  | ptr (r : Nat) (p : List Nat) (off : Nat)
  | pz (k : Nat) (cs : List T) (off : Nat)
  | agg (cs : List T)
  | tup (cs : List T)
  | clo (f : FuncId) (cs : List T)
  | dead

instance : Inhabited T := ⟨.dead⟩

structure Root where
  e : Nat
  live : Bool
  cs : List T

abbrev Store := List Root

def cellsAt (any : Bool) : Nat → List T → List Nat → Option (Nat × List T)
  | e, cs, [] => some (e, cs)
  | _, cs, c :: p => match cs[c]? with
    | some (.sl true k _ e' cs') => if any || k == 0 then cellsAt any e' cs' p else none
    | _ => none

def Store.at (any : Bool) (S : Store) (r : Nat) (p : List Nat) : Option (Nat × List T) :=
  match S[r]? with
  | some x => if x.live then cellsAt any x.e x.cs p else none
  | none => none

inductive FzR (w : World) (ok : Nat → Prop) : T → Value → Prop
  | v (x : Value) (h : x.oneCell' = true) : FzR w ok (.v x) x
  | sl {o : Bool} {k n e : Nat} {cs : List T} {A : Option Addr} {cap : Nat} (b off : Nat) (f : Nat → Value) (hn : cs.length = n * e) (hc : n ≤ cap)
      (ha : cs = [] ∨ (A = some ⟨b, off, none⟩ ∧ ok b)) (hcell : ∀ j c, cs[j]? = some c → w.cell? ⟨b, off + j, none⟩ = some (f j))
      (hrec : ∀ j c, cs[j]? = some c → FzR w ok c (f j)) : FzR w ok (.sl o k n e cs) (.slice A n cap)

def SlV (w : World) (b e off n : Nat) (val : Value) : Prop :=
  ∃ cap arr ty mk, w.heap[b]? = some (.cells arr ty mk) ∧ n ≤ cap ∧ off + cap * e ≤ arr.size ∧ val = .slice (some ⟨b, off, none⟩) n cap

structure Env where
  w : World
  S : Store
  φ : Nat → List Nat → Nat
  B : Nat
  N : Nat
  K : Nat → Nat → Prop

def Env.own (E : Env) (b : Nat) : Prop := ∃ r p x, E.S.at true r p = some x ∧ E.φ r p = b

def Env.okz (E : Env) (k b : Nat) : Prop := b < E.w.heap.size ∧ ¬ E.own b ∧ (b < E.N → E.K k b)

inductive TR (E : Env) : T → Value → Prop
  | v (x : Value) : TR E (.v x) x
  | sl {k n e : Nat} {cs : List T} {val : Value} (h : FzR E.w (E.okz k) (.sl false k n e cs) val) : TR E (.sl false k n e cs) val
  | ref {r : Nat} {p : List Nat} {off n : Nat} {val : Value} (hr : r < E.S.length) (h : ∀ e cs, E.S.at false r p = some (e, cs) → SlV E.w (E.φ r p) e off n val) : TR E (.ref r p off n) val
  | ptr {r : Nat} {p : List Nat} {off : Nat} {val : Value} (hr : r < E.S.length) (h : ∀ x, E.S.at false r p = some x → val = .pointer (some ⟨E.φ r p, off, none⟩)) : TR E (.ptr r p off) val
  | pz {k : Nat} {cs : List T} {off b o : Nat} (f : Nat → Value) (hok : E.okz k b) (hcell : ∀ j c, cs[j]? = some c → E.w.cell? ⟨b, o + j, none⟩ = some (f j))
      (hrec : ∀ j c, cs[j]? = some c → FzR E.w (E.okz k) c (f j)) : TR E (.pz k cs off) (.pointer (some ⟨b, o + off, none⟩))
  | agg {ts : List T} {vs : Array Value} (hs : vs.size = ts.length) (h : ∀ i t, ts[i]? = some t → TR E t (vs.getD i undef)) : TR E (.agg ts) (.agg vs)
  | tup {ts : List T} {vs : Array Value} (hs : vs.size = ts.length) (h : ∀ i t, ts[i]? = some t → TR E t (vs.getD i undef)) : TR E (.tup ts) (.tuple vs)
  | clo {f : FuncId} {ts : List T} {vs : Array Value} (hs : vs.size = ts.length) (h : ∀ i t, ts[i]? = some t → TR E t (vs.getD i undef)) : TR E (.clo f ts) (.func (.func f) #[] vs)
  | dead (val : Value) : TR E .dead val

/-- What a cell of the call's own memory says of the value that lies there. -/
inductive CR (E : Env) (r : Nat) (p : List Nat) (j : Nat) : T → Value → Prop
  | v (x : Value) (h : x.oneCell' = true) : CR E r p j (.v x) x
  | fz {k n e : Nat} {cs : List T} {val : Value} (h : FzR E.w (E.okz k) (.sl false k n e cs) val) : CR E r p j (.sl false k n e cs) val
  | own {k n e : Nat} {cs : List T} {val : Value} (hn : cs.length = n * e) (h : SlV E.w (E.φ r (p ++ [j])) e 0 n val) : CR E r p j (.sl true k n e cs) val
  | ref {r' : Nat} {p' : List Nat} {off n : Nat} {val : Value} (hv : val.oneCell' = true) (h : TR E (.ref r' p' off n) val) : CR E r p j (.ref r' p' off n) val
  | dead (val : Value) (hv : val.oneCell' = true) : CR E r p j .dead val

def MkOk (mk : Nat × Nat) (n : Nat) : Prop := ∀ o, o < n → ¬ (mk.1 ≤ o ∧ o < mk.2)

structure Inv (E : Env) (w0 : World) : Prop where
  below : Below E.B w0 E.w
  hB : E.B ≤ w0.heap.size
  hN : E.N ≤ w0.heap.size
  blk : ∀ r p e cs, E.S.at true r p = some (e, cs) → ∃ arr ty mk, E.w.heap[E.φ r p]? = some (.cells arr ty mk) ∧ cs.length ≤ arr.size ∧ MkOk mk arr.size ∧ E.B ≤ E.φ r p ∧
    ∀ j c, cs[j]? = some c → CR E r p j c (arr.getD j undef)
  inj : ∀ r p x r' p' x', E.S.at true r p = some x → E.S.at true r' p' = some x' → E.φ r p = E.φ r' p' → r = r' ∧ p = p'
  frz : ∀ r p x, E.S.at true r p = some x → E.φ r p < E.N → E.K 0 (E.φ r p)

structure Evo (E E' : Env) : Prop where
  B : E'.B = E.B
  N : E'.N = E.N
  K : E'.K = E.K
  len : E.S.length ≤ E'.S.length
  fz : ∀ k b, E.okz k b → E'.okz k b ∧ E'.w.heap[b]? = E.w.heap[b]?
  node : ∀ r p e cs', r < E.S.length → E'.S.at false r p = some (e, cs') → (∃ cs, E.S.at false r p = some (e, cs)) ∧ E'.φ r p = E.φ r p ∧
    ∀ arr ty mk, E.w.heap[E.φ r p]? = some (.cells arr ty mk) → ∃ arr', E'.w.heap[E.φ r p]? = some (.cells arr' ty mk) ∧ arr'.size = arr.size

theorem Evo.refl (E : Env) : Evo E E :=
  ⟨rfl, rfl, rfl, Nat.le_refl _, fun _ _ h => ⟨h, rfl⟩, fun _ _ _ cs' _ h => ⟨⟨cs', h⟩, rfl, fun arr _ _ h => ⟨arr, h, rfl⟩⟩⟩

theorem Evo.trans {A B C : Env} (h : Evo A B) (k : Evo B C) : Evo A C where
  B := k.B.trans h.B
  N := k.N.trans h.N
  K := k.K.trans h.K
  len := Nat.le_trans h.len k.len
  fz := fun t b hb => ⟨(k.fz t b (h.fz t b hb).1).1, ((k.fz t b (h.fz t b hb).1).2).trans (h.fz t b hb).2⟩
  node := fun r p e cs' hr hx => by
    obtain ⟨⟨c1, h1⟩, h2, h3⟩ := k.node r p e cs' (Nat.lt_of_lt_of_le hr h.len) hx
    obtain ⟨h4, h5, h6⟩ := h.node r p e c1 hr h1
    refine ⟨h4, h2.trans h5, fun arr ty mk ha => ?_⟩
    obtain ⟨a1, ha1, s1⟩ := h6 arr ty mk ha
    obtain ⟨a2, ha2, s2⟩ := h3 a1 ty mk (by rw [h5]; exact ha1)
    exact ⟨a2, by rw [← h5]; exact ha2, s2.trans s1⟩

theorem cell_of_heap {w w' : World} {a : Addr} (h : w'.heap[a.block]? = w.heap[a.block]?) : w'.cell? a = w.cell? a := World.cell?_of_block h

theorem FzR.evo {w w' : World} {ok ok' : Nat → Prop} {t : T} {val : Value} (h : FzR w ok t val) (hok : ∀ b, ok b → ok' b ∧ w'.heap[b]? = w.heap[b]?) : FzR w' ok' t val := by
  induction h with
  | v x hx => exact .v x hx
  | sl b off f hn hc ha hcell hrec ih =>
    rcases ha with ha | ⟨ha, hb⟩
    · subst ha
      exact .sl b off f hn hc (.inl rfl) (fun j c h => by simp at h) (fun j c h => by simp at h)
    · exact .sl b off f hn hc (.inr ⟨ha, (hok b hb).1⟩) (fun j c h => (cell_of_heap (hok b hb).2).trans (hcell j c h)) ih

theorem SlV.evo {w w' : World} {b e off n : Nat} {val : Value} (h : SlV w b e off n val)
    (hs : ∀ arr ty mk, w.heap[b]? = some (.cells arr ty mk) → ∃ arr', w'.heap[b]? = some (.cells arr' ty mk) ∧ arr'.size = arr.size) : SlV w' b e off n val := by
  obtain ⟨cap, arr, ty, mk, h1, h2, h3, h4⟩ := h
  obtain ⟨arr', h5, h6⟩ := hs arr ty mk h1
  exact ⟨cap, arr', ty, mk, h5, h2, by omega, h4⟩

theorem TR.evo {E E' : Env} (h : Evo E E') {t : T} {val : Value} (ht : TR E t val) : TR E' t val := by
  induction ht with
  | v x => exact .v x
  | sl hf => exact .sl (hf.evo fun b hb => h.fz _ b hb)
  | ref hr hx =>
    refine .ref (Nat.lt_of_lt_of_le hr h.len) fun e cs' hn => ?_
    obtain ⟨⟨cs, h1⟩, h2, h3⟩ := h.node _ _ _ _ hr hn
    rw [h2]
    exact (hx e cs h1).evo h3
  | ptr hr hx =>
    refine .ptr (Nat.lt_of_lt_of_le hr h.len) fun x hn => ?_
    obtain ⟨⟨cs, h1⟩, h2, h3⟩ := h.node _ _ x.1 x.2 hr hn
    rw [h2]
    exact hx _ h1
  | pz f hok hcell hrec =>
    exact .pz f (h.fz _ _ hok).1 (fun j c hj => (cell_of_heap (h.fz _ _ hok).2).trans (hcell j c hj)) (fun j c hj => (hrec j c hj).evo fun b hb => h.fz _ b hb)
  | agg hs _ ih => exact .agg hs ih
  | tup hs _ ih => exact .tup hs ih
  | clo hs _ ih => exact .clo hs ih
  | dead val => exact .dead val

end Go.TL
