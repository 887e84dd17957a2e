/- How the roots may change: a new root, a root given up, cells written. Lemmas on 'Inv' and 'Evo'. No conditions. -/
import Derived.Test.YtdnclbghhdflmaaTBase
namespace Go.TL
open Go.RowKit

theorem Store.at_push (any : Bool) (S : Store) (x : Root) (r : Nat) (p : List Nat) :
    Store.at any (S ++ [x]) r p = if r = S.length then (if x.live then cellsAt any x.e x.cs p else none) else Store.at any S r p := by
  unfold Store.at
  by_cases h : r = S.length
  · subst h; simp
  · rw [if_neg h]
    rcases Nat.lt_or_ge r S.length with hl | hl
    · rw [List.getElem?_append_left hl]
    · rw [List.getElem?_eq_none (by simp; omega), List.getElem?_eq_none hl]

theorem Store.at_lt {any : Bool} {S : Store} {r : Nat} {p : List Nat} {x : Nat × List T} (h : Store.at any S r p = some x) : r < S.length := by
  unfold Store.at at h
  split at h
  · rename_i y hy
    exact (List.getElem?_eq_some_iff.1 hy).1
  · cases h

theorem cellsAt_any {e : Nat} {cs : List T} {p : List Nat} {x : Nat × List T} (h : cellsAt false e cs p = some x) : cellsAt true e cs p = some x := by
  induction p generalizing e cs with
  | nil => exact h
  | cons c p ih =>
    unfold cellsAt at h ⊢
    split at h
    · rename_i k n e' cs' hc
      simp only [Bool.false_or, beq_iff_eq] at h
      split at h
      · simp only [Bool.true_or, if_true]
        exact ih h
      · cases h
    · cases h

theorem Store.at_any {S : Store} {r : Nat} {p : List Nat} {x : Nat × List T} (h : Store.at false S r p = some x) : Store.at true S r p = some x := by
  unfold Store.at at h ⊢
  split at h
  · split at h
    · rename_i hl
      simp only [hl, if_true]
      exact cellsAt_any h
    · cases h
  · cases h

/-- Sizes and kinds of blocks stay. -/
def Sized (w w' : World) : Prop := ∀ (b : Nat) (arr : Array Value) (ty : TypeId) (mk : Nat × Nat), w.heap[b]? = some (Obj.cells arr ty mk) → ∃ arr' : Array Value, w'.heap[b]? = some (Obj.cells arr' ty mk) ∧ arr'.size = arr.size

theorem Sized.refl (w : World) : Sized w w := fun _ arr _ _ h => ⟨arr, h, rfl⟩

theorem CR.evo {E E' : Env} (h : Evo E E') (hs : Sized E.w E'.w) {r : Nat} {p : List Nat} {j : Nat} {t : T} {val : Value} (hφ : ∀ k n e cs, t = .sl true k n e cs → E'.φ r (p ++ [j]) = E.φ r (p ++ [j]))
    (ht : CR E r p j t val) : CR E' r p j t val := by
  cases ht with
  | v _ hx => exact .v _ hx
  | fz hf => exact .fz (hf.evo fun b hb => h.fz _ b hb)
  | own hn hv => exact .own hn (by rw [hφ _ _ _ _ rfl]; exact hv.evo (hs _))
  | ref hv ht => exact .ref hv (ht.evo h)
  | dead val hv => exact .dead val hv

theorem CR.oneCell {E : Env} {r : Nat} {p : List Nat} {j : Nat} {t : T} {val : Value} (h : CR E r p j t val) : val.oneCell' = true := by
  cases h with
  | v x hx => exact hx
  | fz hf => cases hf; rfl
  | own hn hv => obtain ⟨_, _, _, _, _, _, _, rfl⟩ := hv; rfl
  | ref hv _ => exact hv
  | dead val hv => exact hv

theorem Env.own_lt {E : Env} {w0 : World} (h : Inv E w0) {b : Nat} (hb : E.own b) : E.B ≤ b ∧ b < E.w.heap.size := by
  obtain ⟨r, p, x, hx, rfl⟩ := hb
  obtain ⟨arr, ty, mk, ha, _, _, hB, _⟩ := h.blk r p x.1 x.2 hx
  exact ⟨hB, (Array.getElem?_eq_some_iff.1 ha).1⟩

/-- Fewer nodes. -/
theorem Inv.sub {E : Env} {w0 : World} (h : Inv E w0) (S' : Store) (hl : S'.length = E.S.length)
    (hat : ∀ any r p x, Store.at any S' r p = some x → Store.at any E.S r p = some x) : Inv { E with S := S' } w0 ∧ Evo E { E with S := S' } := by
  have ev : Evo E { E with S := S' } := by
    refine ⟨rfl, rfl, rfl, by simp [hl], fun k b hb => ⟨?_, rfl⟩, fun r p e cs' hr hx => ⟨⟨cs', hat _ _ _ _ hx⟩, rfl, fun arr ty mk ha => ⟨arr, ha, rfl⟩⟩⟩
    obtain ⟨h1, h4, h3⟩ := hb
    exact ⟨h1, fun ⟨r, p, x, hx, hb⟩ => h4 ⟨r, p, x, hat _ _ _ _ hx, hb⟩, h3⟩
  refine ⟨⟨h.below, h.hB, h.hN, fun r p e cs hx => ?_, fun r p x r' p' x' hx hx' hb => h.inj r p x r' p' x' (hat _ _ _ _ hx) (hat _ _ _ _ hx') hb, fun r p x hx => h.frz r p x (hat _ _ _ _ hx)⟩, ev⟩
  obtain ⟨arr, ty, mk, h1, h2, h3, h4, h5⟩ := h.blk r p e cs (hat _ _ _ _ hx)
  exact ⟨arr, ty, mk, h1, h2, h3, h4, fun j c hc => (h5 j c hc).evo ev (Sized.refl _) (fun _ _ _ _ _ => rfl)⟩

def Store.kill (S : Store) (r : Nat) : Store :=
  match S[r]? with
  | some x => S.set r { x with live := false }
  | none => S

theorem Store.kill_length (S : Store) (r : Nat) : (S.kill r).length = S.length := by
  unfold Store.kill; split <;> simp

theorem Store.at_kill {any : Bool} {S : Store} {r r' : Nat} {p : List Nat} : Store.at any (S.kill r) r' p = if r' = r then none else Store.at any S r' p := by
  unfold Store.kill Store.at
  cases hx : S[r]? with
  | none =>
    by_cases e : r' = r
    · subst e; simp [hx]
    · simp [e]
  | some x =>
    have hlt := (List.getElem?_eq_some_iff.1 hx).1
    by_cases e : r' = r
    · subst e; simp [hlt]
    · rw [if_neg e, List.getElem?_set_ne (by omega)]

theorem Inv.kill {E : Env} {w0 : World} (h : Inv E w0) (r : Nat) : Inv { E with S := E.S.kill r } w0 ∧ Evo E { E with S := E.S.kill r } :=
  h.sub _ (Store.kill_length _ _) fun any r' p x hx => by
    rw [Store.at_kill] at hx
    split at hx
    · cases hx
    · exact hx

theorem World.heap_alloc_lt (w : World) (o : Obj) {b : Nat} (h : b < w.heap.size) : (w.alloc o).heap[b]? = w.heap[b]? := Below.heap_alloc w o b h

theorem Sized.alloc (w : World) (o : Obj) : Sized w (w.alloc o) := fun b arr ty mk h => ⟨arr, by rw [World.heap_alloc_lt _ _ (Array.getElem?_eq_some_iff.1 h).1]; exact h, rfl⟩

/-- No node of its own lies among these cells. -/
def NoOwn (cs : List T) : Prop := ∀ (j k n e : Nat) (cs' : List T), cs[j]? ≠ some (T.sl true k n e cs')

theorem cellsAt_noOwn {any : Bool} {e : Nat} {cs : List T} (h : NoOwn cs) {p : List Nat} {x : Nat × List T} (hx : cellsAt any e cs p = some x) : p = [] ∧ x = (e, cs) := by
  cases p with
  | nil => exact ⟨rfl, by simpa [cellsAt] using hx.symm⟩
  | cons c p =>
    unfold cellsAt at hx
    split at hx
    · rename_i k n e' cs' hc
      exact absurd hc (h c k n e' cs')
    · cases hx

/-- One block more. -/
structure Made (w w' : World) (arr : Array Value) (ty : TypeId) (mk : Nat × Nat) : Prop where
  os : w'.os = w.os
  tape : w'.tape = w.tape
  output : w'.output = w.output
  size : w'.heap.size = w.heap.size + 1
  old : ∀ b, b < w.heap.size → w'.heap[b]? = w.heap[b]?
  new : w'.heap[w.heap.size]? = some (.cells arr ty mk)

theorem Made.alloc (w : World) (arr : Array Value) (ty : TypeId) (mk : Nat × Nat) : Made w (w.alloc (.cells arr ty mk)) arr ty mk :=
  ⟨rfl, rfl, rfl, by simp, fun b hb => World.heap_alloc_lt _ _ hb, by show (w.heap.push _)[w.heap.size]? = _; simp⟩

theorem Made.sized {w w' : World} {arr : Array Value} {ty : TypeId} {mk : Nat × Nat} (h : Made w w' arr ty mk) : Sized w w' := fun b a1 _ _ hb => ⟨a1, (h.old b (Array.getElem?_eq_some_iff.1 hb).1).trans hb, rfl⟩

def Env.push (E : Env) (w' : World) (x : Root) : Env :=
  { E with w := w', S := E.S ++ [x], φ := fun r p => if r = E.S.length then E.w.heap.size else E.φ r p }

theorem Evo.push {E : Env} {w0 : World} (_h : Inv E w0) {w' : World} {arr : Array Value} {ty : TypeId} {mk : Nat × Nat} (hm : Made E.w w' arr ty mk) (x : Root) : Evo E (E.push w' x) := by
  refine ⟨rfl, rfl, rfl, by simp [Env.push], fun k b hb => ?_, fun r p e cs' hr hx => ?_⟩
  · obtain ⟨h1, h4, h3⟩ := hb
    refine ⟨⟨by show b < w'.heap.size; rw [hm.size]; omega, ?_, h3⟩, hm.old _ h1⟩
    rintro ⟨r, p, y, hy, hbb⟩
    simp only [Env.push] at hy hbb
    rw [Store.at_push] at hy
    split at hy
    · rename_i e; rw [if_pos e] at hbb; omega
    · rename_i e; rw [if_neg e] at hbb; exact h4 ⟨r, p, y, hy, hbb⟩
  · simp only [Env.push] at hx ⊢
    rw [Store.at_push, if_neg (by omega)] at hx
    rw [if_neg (by omega)]
    exact ⟨⟨cs', hx⟩, rfl, fun _ _ _ ha => hm.sized _ _ _ _ ha⟩

/-- A new block, a new root. -/
theorem Inv.push {E : Env} {w0 : World} (h : Inv E w0) {w' : World} {arr : Array Value} {ty : TypeId} {mk : Nat × Nat} (hm : Made E.w w' arr ty mk) (x : Root) (hn : NoOwn x.cs) (hlen : x.cs.length ≤ arr.size) (hmk : MkOk mk arr.size)
    (hc : ∀ j c, x.cs[j]? = some c → CR (E.push w' x) E.S.length [] j c (arr.getD j undef)) :
    Inv (E.push w' x) w0 := by
  have hB : E.B ≤ E.w.heap.size := Nat.le_trans h.hB h.below.size
  have ev := Evo.push h hm x
  refine ⟨h.below.trans ⟨hm.os, hm.tape, hm.output, by show _ ≤ w'.heap.size; rw [hm.size]; omega, fun k hk => hm.old k (Nat.lt_of_lt_of_le hk hB)⟩, h.hB, h.hN, fun r p e cs hx => ?_, fun r p y r' p' y' hy hy' hb => ?_, fun r p y hy hlt => ?_⟩
  · simp only [Env.push] at hx ⊢
    rw [Store.at_push] at hx
    split at hx
    · rename_i er
      subst er
      split at hx
      · obtain ⟨rfl, hx2⟩ := cellsAt_noOwn hn hx
        cases hx2
        refine ⟨arr, ty, mk, ?_, hlen, hmk, by simpa using hB, hc⟩
        simp only [if_true]
        exact hm.new
      · cases hx
    · rename_i er
      obtain ⟨a1, t1, m1, h1, h2, h3, h4, h5⟩ := h.blk r p e cs hx
      rw [if_neg er]
      exact ⟨a1, t1, m1, (hm.old _ (Array.getElem?_eq_some_iff.1 h1).1).trans h1, h2, h3, h4, fun j c hj => (h5 j c hj).evo ev hm.sized (fun _ _ _ _ _ => by simp [Env.push, er])⟩
  · simp only [Env.push] at hy hy' hb
    rw [Store.at_push] at hy hy'
    have key : ∀ r p y, (if r = E.S.length then (if x.live then cellsAt true x.e x.cs p else none) else Store.at true E.S r p) = some y → (r = E.S.length ∧ p = []) ∨ (r ≠ E.S.length ∧ E.S.at true r p = some y ∧ E.φ r p < E.w.heap.size) := by
      intro r p y hy
      split at hy
      · rename_i er
        split at hy
        · exact .inl ⟨er, (cellsAt_noOwn hn hy).1⟩
        · cases hy
      · rename_i er
        exact .inr ⟨er, hy, (Env.own_lt h ⟨r, p, y, hy, rfl⟩).2⟩
    rcases key r p y hy with ⟨e1, e2⟩ | ⟨e1, e2, e3⟩ <;> rcases key r' p' y' hy' with ⟨f1, f2⟩ | ⟨f1, f2, f3⟩
    · exact ⟨e1.trans f1.symm, e2.trans f2.symm⟩
    · rw [if_pos e1, if_neg f1] at hb; omega
    · rw [if_neg e1, if_pos f1] at hb; omega
    · rw [if_neg e1, if_neg f1] at hb; exact h.inj r p y r' p' y' e2 f2 hb
  · simp only [Env.push] at hy hlt ⊢
    rw [Store.at_push] at hy
    split at hy
    · rename_i er
      rw [if_pos er] at hlt
      have := Nat.le_trans h.hN h.below.size
      omega
    · rename_i er
      rw [if_neg er] at hlt ⊢
      exact h.frz r p y hy hlt

end Go.TL
