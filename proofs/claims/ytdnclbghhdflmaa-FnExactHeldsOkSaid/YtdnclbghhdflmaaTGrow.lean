/- A row of one's own that has grown: a new root in the elder one's place; append as a whole. No conditions. -/
import Derived.Test.YtdnclbghhdflmaaTApp
namespace Go.TL
open Go.RowKit

def Env.regrow (E : Env) (w' : World) (r g : Nat) (x : Root) : Env :=
  { E with w := w', S := E.S.kill r ++ [x], φ := fun r' q => if r' = E.S.length then (if q = [] then g else E.φ r q) else E.φ r' q }

/-- How a world may have turned where a row grew. -/
def GrewAt (w w' : World) (b g : Nat) : Prop := (g = b ∧ Wrote w w' g) ∨ (g = w.heap.size ∧ ∃ arr ty mk, Made w w' arr ty mk)

theorem GrewAt.sized {w w' : World} {b g : Nat} (h : GrewAt w w' b g) : Sized w w' := by
  rcases h with ⟨_, h⟩ | ⟨_, _, _, _, h⟩
  · exact h.sized
  · exact h.sized

theorem GrewAt.size {w w' : World} {b g : Nat} (h : GrewAt w w' b g) : w.heap.size ≤ w'.heap.size := by
  rcases h with ⟨_, h⟩ | ⟨_, _, _, _, h⟩
  · rw [h.size]; exact Nat.le_refl _
  · rw [h.size]; omega

theorem GrewAt.other {w w' : World} {b g k : Nat} (h : GrewAt w w' b g) (hk : k < w.heap.size) (hb : k ≠ b) : w'.heap[k]? = w.heap[k]? := by
  rcases h with ⟨e, h⟩ | ⟨_, _, _, _, h⟩
  · exact h.other k (by rw [e]; exact hb)
  · exact h.old k hk

theorem regrow_at {E : Env} {w' : World} {r g : Nat} {x : Root} {e : Nat} {cs : List T} (hn : E.S.at false r [] = some (e, cs))
    (hnew : ∀ any q y, q ≠ [] → cellsAt any x.e x.cs q = some y → cellsAt any e cs q = some y) {any : Bool} {r' : Nat} {q : List Nat} {y : Nat × List T} (hy : (E.regrow w' r g x).S.at any r' q = some y) :
    (r' = E.S.length ∧ q = [] ∧ y = (x.e, x.cs)) ∨ (r' = E.S.length ∧ q ≠ [] ∧ E.S.at any r q = some y) ∨ (r' ≠ E.S.length ∧ r' ≠ r ∧ E.S.at any r' q = some y) := by
  simp only [Env.regrow] at hy
  rw [Store.at_push, Store.kill_length] at hy
  split at hy
  · rename_i er
    split at hy
    case isFalse => cases hy
    by_cases hq : q = []
    · subst hq
      simp only [cellsAt, Option.some.injEq] at hy
      exact .inl ⟨er, rfl, hy.symm⟩
    · refine .inr (.inl ⟨er, hq, ?_⟩)
      have h1 := hnew any q y hq hy
      have h2 : E.S.at any r [] = some (e, cs) := by
        cases any
        · exact hn
        · exact Store.at_any hn
      have := Store.at_append any E.S r [] q
      rw [List.nil_append, h2] at this
      rw [this]; exact h1
  · rename_i er
    rw [Store.at_kill] at hy
    split at hy
    · cases hy
    · rename_i e2
      exact .inr (.inr ⟨er, e2, hy⟩)

theorem Evo.regrow {E : Env} {w0 : World} (_h : Inv E w0) {r : Nat} {e : Nat} {cs : List T} (hn : E.S.at false r [] = some (e, cs)) {w' : World} {g : Nat} (hg : GrewAt E.w w' (E.φ r []) g) (x : Root)
    (hnew : ∀ any q y, q ≠ [] → cellsAt any x.e x.cs q = some y → cellsAt any e cs q = some y) : Evo E (E.regrow w' r g x) := by
  have hown : E.own (E.φ r []) := ⟨r, [], _, Store.at_any hn, rfl⟩
  refine ⟨rfl, rfl, rfl, by simp [Env.regrow, Store.kill_length], fun k b hb => ?_, fun r' q e1 cs' hr hx => ?_⟩
  · obtain ⟨h1, h4, h3⟩ := hb
    have hne : b ≠ E.φ r [] := by
      rintro rfl
      exact h4 hown
    refine ⟨⟨Nat.lt_of_lt_of_le h1 hg.size, ?_, h3⟩, hg.other h1 hne⟩
    rintro ⟨r', q, y, hy, hbb⟩
    rcases regrow_at hn hnew hy with ⟨rfl, rfl, _⟩ | ⟨rfl, h5, h6⟩ | ⟨h5, h6, h7⟩
    · simp only [Env.regrow, if_true] at hbb
      rcases hg with ⟨hg1, _⟩ | ⟨hg1, _⟩
      · exact hne (by rw [← hbb, hg1])
      · omega
    · simp only [Env.regrow, if_true, if_neg h5] at hbb
      exact h4 ⟨r, q, _, h6, hbb⟩
    · simp only [Env.regrow, if_neg h5] at hbb
      exact h4 ⟨r', q, _, h7, hbb⟩
  · rcases regrow_at hn hnew hx with ⟨rfl, _⟩ | ⟨rfl, _⟩ | ⟨h5, h6, h7⟩
    · omega
    · omega
    · have e1 : (E.regrow w' r g x).φ r' q = E.φ r' q := by simp only [Env.regrow, if_neg h5]
      exact ⟨⟨cs', h7⟩, e1, fun arr ty mk ha => hg.sized _ _ _ _ ha⟩

theorem Inv.regrow {E : Env} {w0 : World} (h : Inv E w0) {r : Nat} {e : Nat} {cs : List T} (hn : E.S.at false r [] = some (e, cs)) {w' : World} {g : Nat} (hg : GrewAt E.w w' (E.φ r []) g) (x : Root)
    (hnew : ∀ any q y, q ≠ [] → cellsAt any x.e x.cs q = some y → cellsAt any e cs q = some y) {arr : Array Value} {ty : TypeId} {mk : Nat × Nat} (ha : w'.heap[g]? = some (.cells arr ty mk)) (hmk : MkOk mk arr.size) (hlen : x.cs.length ≤ arr.size)
    (hc : ∀ j c, x.cs[j]? = some c → CR (E.regrow w' r g x) E.S.length [] j c (arr.getD j undef)) : Inv (E.regrow w' r g x) w0 := by
  have hB : E.B ≤ E.w.heap.size := Nat.le_trans h.hB h.below.size
  have ev := Evo.regrow h hn hg x hnew
  have hown : E.own (E.φ r []) := ⟨r, [], _, Store.at_any hn, rfl⟩
  have hlt := Env.own_lt h hown
  have hgB : E.B ≤ g := by
    rcases hg with ⟨hg1, _⟩ | ⟨hg1, _⟩
    · rw [hg1]; exact hlt.1
    · rw [hg1]; exact hB
  have hbelow : Below E.B E.w w' := by
    rcases hg with ⟨hg1, hw⟩ | ⟨hg1, _, _, _, hm⟩
    · exact ⟨hw.os, hw.tape, hw.output, by rw [hw.size]; exact Nat.le_refl _, fun k hk => hw.other k (by omega)⟩
    · exact ⟨hm.os, hm.tape, hm.output, by rw [hm.size]; omega, fun k hk => hm.old k (by omega)⟩
  have hother : ∀ r' q y, r' ≠ r → E.S.at true r' q = some y → E.φ r' q ≠ E.φ r [] ∧ E.φ r' q < E.w.heap.size := fun r' q y hne hy =>
    ⟨fun hh => hne (h.inj _ _ _ _ _ _ hy (Store.at_any hn) hh).1, (Env.own_lt h ⟨r', q, _, hy, rfl⟩).2⟩
  have hnest : ∀ q y, q ≠ [] → E.S.at true r q = some y → E.φ r q ≠ E.φ r [] ∧ E.φ r q < E.w.heap.size := fun q y hne hy =>
    ⟨fun hh => hne (h.inj _ _ _ _ _ _ hy (Store.at_any hn) hh).2, (Env.own_lt h ⟨r, q, _, hy, rfl⟩).2⟩
  refine ⟨h.below.trans hbelow, h.hB, h.hN, fun r' q e1 cs1 hx => ?_, fun r1 q1 y1 r2 q2 y2 hy1 hy2 hb => ?_, fun r1 q1 y1 hy1 hlt => ?_⟩
  · rcases regrow_at hn hnew hx with ⟨rfl, rfl, hy⟩ | ⟨rfl, hq, hy⟩ | ⟨h5, h6, hy⟩
    · cases hy
      have e2 : (E.regrow w' r g x).φ E.S.length [] = g := by simp [Env.regrow]
      rw [e2]
      exact ⟨arr, ty, mk, ha, hlen, hmk, hgB, hc⟩
    · obtain ⟨a1, t1, m1, h1, h2, h3, h4, h5⟩ := h.blk r q e1 cs1 hy
      have e2 : (E.regrow w' r g x).φ E.S.length q = E.φ r q := by simp [Env.regrow, hq]
      rw [e2]
      have := hnest q _ hq hy
      refine ⟨a1, t1, m1, (hg.other this.2 this.1).trans h1, h2, h3, h4, fun j c hj => ?_⟩
      have hcr := h5 j c hj
      cases hcr with
      | v _ hx' => exact .v _ hx'
      | fz hf => exact .fz (hf.evo fun b hb => ev.fz _ b hb)
      | own hn' hv => exact .own hn' (by rw [show (E.regrow w' r g x).φ E.S.length (q ++ [j]) = E.φ r (q ++ [j]) by simp [Env.regrow]]; exact hv.evo (hg.sized _))
      | ref hv ht => exact .ref hv (ht.evo ev)
      | dead _ hv => exact .dead _ hv
    · obtain ⟨a1, t1, m1, h1, h2, h3, h4, h7⟩ := h.blk r' q e1 cs1 hy
      have e2 : ∀ q, (E.regrow w' r g x).φ r' q = E.φ r' q := fun q => by simp only [Env.regrow, if_neg h5]
      rw [e2]
      have := hother r' q _ h6 hy
      exact ⟨a1, t1, m1, (hg.other this.2 this.1).trans h1, h2, h3, h4, fun j c hj => (h7 j c hj).evo ev hg.sized (fun _ _ _ _ _ => e2 _)⟩
  · rcases regrow_at hn hnew hy1 with ⟨rfl, rfl, k1⟩ | ⟨rfl, k0, k1⟩ | ⟨k0, k0', k1⟩ <;> rcases regrow_at hn hnew hy2 with ⟨rfl, rfl, l1⟩ | ⟨rfl, l0, l1⟩ | ⟨l0, l0', l1⟩
    · exact ⟨rfl, rfl⟩
    · simp only [Env.regrow, if_true, if_neg l0] at hb
      have := hnest q2 _ l0 l1
      rcases hg with ⟨hg1, _⟩ | ⟨hg1, _⟩
      · exact absurd (hb.symm.trans hg1) this.1
      · omega
    · simp only [Env.regrow, if_true, if_neg l0] at hb
      have := hother r2 q2 _ l0' l1
      rcases hg with ⟨hg1, _⟩ | ⟨hg1, _⟩
      · exact absurd (hb.symm.trans hg1) this.1
      · omega
    · simp only [Env.regrow, if_true, if_neg k0] at hb
      have := hnest q1 _ k0 k1
      rcases hg with ⟨hg1, _⟩ | ⟨hg1, _⟩
      · exact absurd (hb.trans hg1) this.1
      · omega
    · simp only [Env.regrow, if_true, if_neg k0, if_neg l0] at hb
      exact ⟨rfl, (h.inj _ _ _ _ _ _ k1 l1 hb).2⟩
    · simp only [Env.regrow, if_true, if_neg k0, if_neg l0] at hb
      exact absurd (h.inj _ _ _ _ _ _ k1 l1 hb).1.symm l0'
    · simp only [Env.regrow, if_true, if_neg k0] at hb
      have := hother r1 q1 _ k0' k1
      rcases hg with ⟨hg1, _⟩ | ⟨hg1, _⟩
      · exact absurd (hb.trans hg1) this.1
      · omega
    · simp only [Env.regrow, if_true, if_neg k0, if_neg l0] at hb
      exact absurd (h.inj _ _ _ _ _ _ k1 l1 hb).1 k0'
    · simp only [Env.regrow, if_neg k0, if_neg l0] at hb
      exact h.inj _ _ _ _ _ _ k1 l1 hb
  · rcases regrow_at hn hnew hy1 with ⟨rfl, rfl, k1⟩ | ⟨rfl, k0, k1⟩ | ⟨k0, k0', k1⟩
    · have e2 : (E.regrow w' r g x).φ E.S.length [] = g := by simp [Env.regrow]
      rw [e2] at hlt ⊢
      rcases hg with ⟨hg1, _⟩ | ⟨hg1, _⟩
      · have := h.frz r [] _ (Store.at_any hn)
        rw [← hg1] at this
        exact this hlt
      · have hlt1 : g < E.N := hlt
        have := Nat.le_trans h.hN h.below.size
        omega
    · have e2 : (E.regrow w' r g x).φ E.S.length q1 = E.φ r q1 := by simp [Env.regrow, k0]
      rw [e2] at hlt ⊢
      exact h.frz _ _ _ k1 hlt
    · have e2 : (E.regrow w' r g x).φ r1 q1 = E.φ r1 q1 := by simp only [Env.regrow, if_neg k0]
      rw [e2] at hlt ⊢
      exact h.frz _ _ _ k1 hlt

/-! ### what is appended -/
def zc (k : Nat) : T → T
  | .v x => .v x
  | .sl _ _ n e cs => .sl false k n e cs
  | _ => .dead

def bytesT' (s : ByteArray) : List T := s.data.toList.map fun b => .v (.int .u8 b.toNat)

def srcT (S : Store) (sz : Nat) (y : T) : Option (Nat × List T) :=
  match y with
  | .v (.slice none 0 0) => some (0, [])
  | .v (.string s) => if sz = 1 then some (s.size, bytesT' s) else none
  | .sl false k n e cs => if e = sz then some (n, cs.map (zc k)) else none
  | .ref r p off n => match S.at false r p with
    | some (e, cs) => if e = sz ∧ off + n * e ≤ cs.length ∧ ((cs.drop off).take (n * e)).all cellOk = true then some (n, (cs.drop off).take (n * e)) else none
    | none => none
  | _ => none

theorem firstCells_list {P : Program} {w : World} (size n : Nat) (A : Option Addr) (b off len cap : Nat) (cs : List Value) (hl : cs.length = n * size) (hA : cs = [] ∨ A = some ⟨b, off, none⟩)
    (h : ∀ j v, cs[j]? = some v → w.cell? ⟨b, off + j, none⟩ = some v) : (Builtin.firstCells size n (.slice A len cap)).run P w = .ok cs.toArray w := by
  rcases hA with rfl | rfl
  · have h0 : n * size = 0 := by simpa using hl.symm
    cases A with
    | none => simp [Builtin.firstCells]
    | some a => simp [Builtin.firstCells, h0, loadCells, loadCellsFrom]
  · exact run_firstCells_some w size n _ len cap cs hl (fun j v hj => by rw [addr_add]; exact h j v hj)

theorem src_run {P : Program} {E : Env} {w0 : World} (h : Inv E w0) {sz : Nat} {y : T} {val : Value} (ht : TR E y val) {m : Nat} {cs : List T} (hs : srcT E.S sz y = some (m, cs)) :
    ∃ news : List Value, RL E cs news ∧ news.length = m * sz ∧ (Builtin.lenOf val).run P E.w = .ok m E.w ∧ ∀ w', w'.heap = E.w.heap → (Builtin.firstCells sz m val).run P w' = .ok news.toArray w' := by
  unfold srcT at hs
  split at hs
  · cases hs
    cases ht
    exact ⟨[], ⟨rfl, fun j c hj => by simp at hj⟩, by simp, rfl, fun w' _ => rfl⟩
  · rename_i s
    split at hs
    case isFalse => cases hs
    rename_i h1
    subst h1
    cases hs
    cases ht
    refine ⟨s.data.toList.map fun b => .int .u8 b.toNat, ⟨by simp [bytesT'], fun j c hj => ?_⟩, by simp, rfl, fun w' _ => ?_⟩
    · simp only [bytesT', List.getElem?_map] at hj
      obtain ⟨b, hb, rfl⟩ := Option.map_eq_some_iff.1 hj
      exact ⟨.int .u8 b.toNat, by rw [List.getElem?_map, hb]; rfl, .v _, rfl, rfl⟩
    · have e1 : s.extract 0 s.size = s := by
        have := ByteArray.extract_zero_size (b := s)
        exact this
      simp only [Builtin.firstCells, e1, Sem.run_pure]
      congr 1
      refine Array.ext' ?_
      simp
  · rename_i k n e cs'
    split at hs
    case isFalse => cases hs
    rename_i he
    subst he
    cases hs
    cases ht with
    | sl hf =>
      cases hf with
      | sl b off f hn hc ha hcell hrec =>
        refine ⟨(List.range cs'.length).map f, ⟨by simp, fun j c hj => ?_⟩, by simp [hn], rfl, fun w' hw' => ?_⟩
        · rw [List.getElem?_map] at hj
          obtain ⟨c0, hc0, rfl⟩ := Option.map_eq_some_iff.1 hj
          have hlt := (List.getElem?_eq_some_iff.1 hc0).1
          refine ⟨f j, by rw [List.getElem?_map, List.getElem?_range hlt]; rfl, ?_⟩
          have := hrec j c0 hc0
          refine ⟨?_, this.oneCell, ?_⟩
          · generalize hfj : f j = u at this
            cases this with
            | v _ hx => exact .v _
            | sl b1 off1 f1 g1 g2 g3 g4 g5 => exact .sl (.sl b1 off1 f1 g1 g2 g3 g4 g5)
          · generalize hfj : f j = u at this
            cases this with
            | v _ hx => exact hx
            | sl => rfl
        · refine firstCells_list e m _ b off _ _ _ (by simp [hn]) (ha.imp (fun h => by subst h; rfl) (fun h => h.1)) fun j v hj => ?_
          rw [List.getElem?_map] at hj
          obtain ⟨j', hj', rfl⟩ := Option.map_eq_some_iff.1 hj
          have hlt : j < cs'.length := by have := (List.getElem?_eq_some_iff.1 hj').1; simpa using this
          rw [List.getElem?_range hlt] at hj'
          cases hj'
          rw [show w'.cell? ⟨b, off + j, none⟩ = E.w.cell? ⟨b, off + j, none⟩ from cell_of_heap (by rw [hw'])]
          exact hcell j _ (List.getElem?_eq_getElem hlt)
  · rename_i r p off n
    split at hs
    case h_2 => cases hs
    rename_i e cs' hat
    split at hs
    case isFalse => cases hs
    rename_i hb
    obtain ⟨rfl, hb2, hb3⟩ := hb
    cases hs
    cases ht with
    | ref hr hh =>
      obtain ⟨cap, arr, ty, mk, g1, g2, g3, rfl⟩ := hh _ _ hat
      obtain ⟨arr2, ty', mk', k1, k2, k3, k4, k5⟩ := h.blk r p e cs' (Store.at_any hat)
      rw [g1] at k1
      cases k1
      have hlen : ((cs'.drop off).take (m * e)).length = m * e := by simp; omega
      refine ⟨(List.range (m * e)).map (fun j => arr.getD (off + j) undef), ⟨by simp [hlen], fun j c hj => ?_⟩, by simp, rfl, fun w' hw' => ?_⟩
      · have hlt : j < m * e := by rw [← hlen]; exact (List.getElem?_eq_some_iff.1 hj).1
        have hok := List.all_eq_true.1 hb3 _ (List.mem_of_getElem? hj)
        rw [List.getElem?_take_of_lt hlt, List.getElem?_drop] at hj
        have hcr := k5 _ _ hj
        refine ⟨arr.getD (off + j) undef, by rw [List.getElem?_map, List.getElem?_range hlt]; rfl, ?_, hcr.oneCell, hok⟩
        cases hcr with
        | v _ hx => exact .v _
        | fz hf => exact .sl hf
        | own => simp [cellOk] at hok
        | ref hv ht => exact ht
        | dead => simp [cellOk] at hok
      · refine firstCells_list e m _ (E.φ r p) off _ _ _ (by simp) (.inr rfl) fun j v hj => ?_
        rw [List.getElem?_map] at hj
        obtain ⟨j', hj', rfl⟩ := Option.map_eq_some_iff.1 hj
        have hlt : j < m * e := by have := (List.getElem?_eq_some_iff.1 hj').1; simpa using this
        rw [List.getElem?_range hlt] at hj'
        cases hj'
        rw [show w'.cell? ⟨E.φ r p, off + j, none⟩ = E.w.cell? ⟨E.φ r p, off + j, none⟩ from cell_of_heap (by rw [hw']), cell_of_row _ _ _ _ _ _ g1,
          Array.getD_eq_getD_getElem?, Array.getElem?_eq_getElem (by omega)]
        rfl
  · cases hs

end Go.TL
