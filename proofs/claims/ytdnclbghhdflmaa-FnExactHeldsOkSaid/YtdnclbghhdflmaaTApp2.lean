/- append on trees: the operation as a whole. No conditions. -/
import Derived.Test.YtdnclbghhdflmaaTGrow
namespace Go.TL
open Go.RowKit

def appendT (P : Program) (S : Store) (t ty2 : TypeId) (x y : T) : Option (T × Store) :=
  match elemT P t with
  | some e => match szT P e, bytesT P e, zeroT P e with
    | some sz, some bs, some zs => if notInt P ty2 = true ∧ 0 < sz ∧ zs.length = sz then match srcT S sz y with
      | some (m, news) => match x with
        | .v (.slice none 0 0) => if m = 0 then some (.v (.slice none 0 0), S) else if m * bs ≤ 140737488355328 ∧ m < 2 ^ 63 then some (.ref S.length [] 0 m, S ++ [⟨sz, true, news⟩]) else none
        | .ref r [] 0 n => match S.at false r [] with
          | some (e', cs) => if e' = sz ∧ n * sz ≤ cs.length ∧ (n + m) * bs ≤ 140737488355328 ∧ n + m < 2 ^ 63 then some (.ref S.length [] 0 (n + m), S.kill r ++ [⟨sz, true, cs.take (n * sz) ++ news⟩]) else none
          | none => none
        | _ => none
      | none => none
      else none
    | _, _, _ => none
  | none => none

theorem RL.getD {E : Env} {ts : List T} {vs : List Value} (h : RL E ts vs) {j : Nat} {c : T} (hj : ts[j]? = some c) : TR E c (vs.getD j undef) ∧ (vs.getD j undef).oneCell' = true ∧ cellOk c = true := by
  obtain ⟨v, h1, h2, h3, h4⟩ := h.2 j c hj
  rw [List.getD_eq_getElem?_getD, h1]
  exact ⟨h2, h3, h4⟩

theorem RL.allOk {E : Env} {ts : List T} {vs : List Value} (h : RL E ts vs) : ts.all cellOk = true :=
  List.all_eq_true.2 fun c hc => by obtain ⟨j, hj⟩ := List.getElem?_of_mem hc; exact (h.getD hj).2.2

theorem RL.allOne {E : Env} {ts : List T} {vs : List Value} (h : RL E ts vs) : ∀ u ∈ vs, u.oneCell' = true := fun u hu => by
  obtain ⟨j, hj⟩ := List.getElem?_of_mem hu
  have hlt : j < ts.length := by rw [← h.1]; exact (List.getElem?_eq_some_iff.1 hj).1
  have := (h.getD (List.getElem?_eq_getElem hlt)).2.1
  rw [List.getD_eq_getElem?_getD, hj] at this
  exact this

theorem cellsAt_take {any : Bool} {e e' : Nat} {cs news : List T} {k : Nat} (hk : k ≤ cs.length) (hn : news.all cellOk = true) : ∀ q y, q ≠ [] → cellsAt any e' (cs.take k ++ news) q = some y → cellsAt any e cs q = some y := by
  intro q y hq h
  cases q with
  | nil => exact absurd rfl hq
  | cons i q =>
    unfold cellsAt at h ⊢
    have hlen : (cs.take k).length = k := by simp; omega
    rcases Nat.lt_or_ge i k with hi | hi
    · rw [List.getElem?_append_left (by omega), List.getElem?_take_of_lt hi] at h
      exact h
    · rw [List.getElem?_append_right (by omega)] at h
      split at h
      · rename_i k1 n1 e1 cs1 hh
        have := List.all_eq_true.1 hn _ (List.mem_of_getElem? hh)
        simp [cellOk] at this
      · cases h

theorem append_gives {P : Program} {o : Oper} {t ty2 : TypeId} {xo yo : Operand} (ho : o.op = .call { callee := .builtin .append, args := #[xo, yo], argTypes := #[t, ty2] }) {a : Act} {E : Env} {w0 : World} {N : Nat} {fr : Nat → T}
    (h : Inv E w0) (hf : FR E N fr a) {r : T} {S' : Store} (hr : appendT P E.S t ty2 (ev fr xo) (ev fr yo) = some (r, S')) : Gives P o a E w0 r S' := by
  have hexec : ∀ {v : Value} {w' : World}, (Builtin.append_ #[t, ty2] o.type #[a.eval xo, a.eval yo]).run P E.w = .ok v w' → (execOp a.eval o).run P E.w = .ok (.value v) w' := by
    intro v w' hv
    simp only [execOp, ho, resolve, invoke, builtin, Sem.run_bind, Sem.run_pure, Result.andThen_ok, List.map_toArray, List.map_cons, List.map_nil, hv]
  unfold appendT at hr
  split at hr
  case h_2 => cases hr
  rename_i e he
  split at hr
  case h_2 => cases hr
  rename_i sz bs zs hsz hbs hzs
  split at hr
  case isFalse => cases hr
  rename_i hc
  obtain ⟨hc1, hc2, hc3⟩ := hc
  obtain ⟨z, hz, rfl, hza⟩ := zeroT_run hzs
  have hzl : z.cells.size = sz := by simpa using hc3
  split at hr
  case h_2 => cases hr
  rename_i m news hsrc
  obtain ⟨nv, s1, s2, s3, s4⟩ := src_run (P := P) h (hf.ev yo) hsrc
  have hnl : news.length = m * sz := by rw [← s1.1, s2]
  split at hr
  · rename_i hx
    have hxv := (hf.ev xo).toV _ _ (.slice none 0 0) (by rw [hx]; rfl)
    split at hr
    · rename_i hm
      cases hr
      subst hm
      refine Gives.pure h (v := .slice none 0 0) (hexec ?_) (.v _)
      have hd : (∃ x, P.underlying ty2 = some (.slice x)) ∨ P.underlying ty2 = some .string := by
        unfold notInt at hc1
        split at hc1
        · rename_i hh; exact .inl ⟨_, hh⟩
        · rename_i hh; exact .inr hh
        · cases hc1
      have hnil : nv = [] := List.eq_nil_of_length_eq_zero (by simpa using s2)
      have s5 := s4 E.w rfl
      rw [hnil] at s5
      rw [hxv]
      have hu := elemT_run he
      rcases hd with ⟨d, hd1⟩ | hd1 <;> simp [Builtin.append_, run_underlying hu, run_underlying hd1, szT_run hsz, s3, s5]
    · rename_i hm
      split at hr
      case isFalse => cases hr
      rename_i hb
      cases hr
      have hrun := append_out (P := P) (oty := o.type) he hsz hbs hc1 hz (w := E.w) (A := none) (n := 0) (cap := 0) (xs := []) (y := a.eval yo) (m := m) (news := nv) (by simp [Builtin.firstCells]) s3 (s4 E.w.drew rfl) (by omega) (by simpa using hb.1) (by omega)
      simp only [Nat.zero_add] at hrun
      have hge : m ≤ grownCap E.w m 0 e := grownCap_ge E.w m 0 e
      have hmade : Made E.w (E.w.drew.alloc (.cells (([] : List Value).toArray ++ (nv.toArray ++ Builtin.zeroCells z.cells (grownCap E.w m 0 e - m))) e)) (([] : List Value).toArray ++ (nv.toArray ++ Builtin.zeroCells z.cells (grownCap E.w m 0 e - m))) e (0, 0) := by
        have := Made.alloc E.w.drew (([] : List Value).toArray ++ (nv.toArray ++ Builtin.zeroCells z.cells (grownCap E.w m 0 e - m))) e (0, 0)
        exact ⟨this.os, this.tape, this.output, this.size, this.old, this.new⟩
      have hsize : (([] : List Value).toArray ++ (nv.toArray ++ Builtin.zeroCells z.cells (grownCap E.w m 0 e - m))).size = grownCap E.w m 0 e * sz := by
        simp only [Array.size_append, List.size_toArray, size_zeroCells, hzl, s2, List.length_nil, Nat.zero_add, ← Nat.add_mul]
        congr 1; omega
      refine Inv.new h hmade (mk0 _) sz _ s1.allOk (by rw [hsize, hnl]; exact Nat.mul_le_mul_right _ hge) (fun j c hj => ?_) (v := .slice (some ⟨E.w.heap.size, 0, none⟩) m (grownCap E.w m 0 e)) (hexec (by rw [hxv]; exact hrun)) (ref_new E hmade sz m _ _ hge (by rw [hsize]; exact Nat.le_refl _))
      have hlt : j < nv.length := by rw [s1.1]; exact (List.getElem?_eq_some_iff.1 hj).1
      have hg := s1.getD hj
      have : (([] : List Value).toArray ++ (nv.toArray ++ Builtin.zeroCells z.cells (grownCap E.w m 0 e - m))).getD j undef = nv.getD j undef := by
        rw [Array.getD_eq_getD_getElem?, show ([] : List Value).toArray ++ (nv.toArray ++ Builtin.zeroCells z.cells (grownCap E.w m 0 e - m)) = nv.toArray ++ Builtin.zeroCells z.cells (grownCap E.w m 0 e - m) by simp, Array.getElem?_append_left (by simpa using hlt), List.getElem?_toArray, ← List.getD_eq_getElem?_getD]
      rw [this]
      exact ⟨hg.1, hg.2.1⟩
  · rename_i r' n hx
    split at hr
    case h_2 => cases hr
    rename_i e' cs hat
    split at hr
    case isFalse => cases hr
    rename_i hb
    obtain ⟨rfl, b2, b3, b4⟩ := hb
    cases hr
    have hxr := hf.ev xo
    rw [hx] at hxr
    generalize hval : a.eval xo = val at hxr hexec
    cases hxr with
    | ref hr hh =>
      obtain ⟨cap, arr, ty, mk, g1, g2, g3, rfl⟩ := hh _ _ hat
      obtain ⟨arr2, ty2', mk2, k1, k2, k3, k4, k5⟩ := h.blk r' [] e' cs (Store.at_any hat)
      rw [g1] at k1
      cases k1
      have hnew : ∀ any q y, q ≠ [] → cellsAt any e' (cs.take (n * e') ++ news) q = some y → cellsAt any e' cs q = some y := fun any q y hq hy => cellsAt_take b2 s1.allOk q y hq hy
      have hlen : (cs.take (n * e') ++ news).length = (n + m) * e' := by simp [hnl, Nat.add_mul]; omega
      -- what both ways share
      have fin : ∀ (w' : World) (g cap' : Nat) (arr' : Array Value) (ty' : TypeId) (mk' : Nat × Nat), GrewAt E.w w' (E.φ r' []) g → w'.heap[g]? = some (.cells arr' ty' mk') → MkOk mk' arr'.size → n + m ≤ cap' → cap' * e' ≤ arr'.size →
          (∀ j, j < n * e' → arr'.getD j undef = arr.getD j undef) → (∀ j, j < m * e' → arr'.getD (n * e' + j) undef = nv.getD j undef) →
          (execOp a.eval o).run P E.w = .ok (.value (.slice (some ⟨g, 0, none⟩) (n + m) cap')) w' → Gives P o a E w0 (.ref E.S.length [] 0 (n + m)) (E.S.kill r' ++ [⟨e', true, cs.take (n * e') ++ news⟩]) := by
        intro w' g cap' arr' ty' mk' hgrew harr hmk' hcap1 hcap2 hold hnews hrun
        have ev := Evo.regrow h hat hgrew ⟨e', true, cs.take (n * e') ++ news⟩ hnew
        have hc : ∀ j c, (cs.take (n * e') ++ news)[j]? = some c → CR (E.regrow w' r' g ⟨e', true, cs.take (n * e') ++ news⟩) E.S.length [] j c (arr'.getD j undef) := by
          intro j c hj
          have hlt : (cs.take (n * e')).length = n * e' := by simp; omega
          rcases Nat.lt_or_ge j (n * e') with hi | hi
          · rw [List.getElem?_append_left (by omega), List.getElem?_take_of_lt hi] at hj
            rw [hold j hi]
            have hcr := k5 j c hj
            cases hcr with
            | v _ hx' => exact .v _ hx'
            | fz hf' => exact .fz (hf'.evo fun b hb => ev.fz _ b hb)
            | own hn' hv => exact .own hn' (by rw [show (E.regrow w' r' g ⟨e', true, cs.take (n * e') ++ news⟩).φ E.S.length ([] ++ [j]) = E.φ r' ([] ++ [j]) by simp [Env.regrow]]; exact hv.evo (hgrew.sized _))
            | ref hv ht => exact .ref hv (ht.evo ev)
            | dead _ hv => exact .dead _ hv
          · rw [List.getElem?_append_right (by omega), hlt] at hj
            have hjl : j - n * e' < m * e' := by rw [← hnl]; exact (List.getElem?_eq_some_iff.1 hj).1
            have := hnews (j - n * e') hjl
            rw [show n * e' + (j - n * e') = j by omega] at this
            rw [this]
            have hg := s1.getD hj
            exact (hg.1.evo ev).cell hg.2.2 hg.2.1 _ _ _
        refine ⟨_, E.regrow w' r' g ⟨e', true, cs.take (n * e') ++ news⟩, hrun, rfl, h.regrow hat hgrew _ hnew harr hmk' (by rw [hlen]; exact Nat.le_trans (Nat.mul_le_mul_right _ hcap1) hcap2) hc, ev, ?_⟩
        refine .ref (by simp [Env.regrow, Store.kill_length]) fun e2 cs2 hat2 => ?_
        have e3 : (E.regrow w' r' g ⟨e', true, cs.take (n * e') ++ news⟩).S.at false E.S.length [] = some (e', cs.take (n * e') ++ news) := by
          simp only [Env.regrow]
          rw [Store.at_push, Store.kill_length, if_pos rfl]; rfl
        rw [e3] at hat2
        cases hat2
        have e4 : (E.regrow w' r' g ⟨e', true, cs.take (n * e') ++ news⟩).φ E.S.length [] = g := by simp [Env.regrow]
        rw [e4]
        exact ⟨cap', arr', ty', mk', harr, hcap1, by omega, rfl⟩
      by_cases hroom : n + m ≤ cap
      · have hrun := append_in (P := P) (oty := o.type) he hsz hc1 g1 k3 (by omega) (n := n) s3 s2 s1.allOne (s4 E.w rfl) hroom
        have hle : n * e' + nv.length ≤ arr.size := by rw [s2, ← Nat.add_mul]; exact Nat.le_trans (Nat.mul_le_mul_right _ hroom) (by omega)
        obtain ⟨hw, arr', c1, c2, c3, c4⟩ := setCells_wrote _ ty mk nv (n * e') E.w arr g1 hle
        exact fin _ _ cap arr' ty mk (.inl ⟨rfl, hw⟩) c1 (by rw [c2]; exact k3) hroom (by rw [c2]; omega) c3 (fun j hj => c4 j (by omega)) (hexec hrun)
      · have hxs := firstCells_list (P := P) (w := E.w.drew) e' n (some ⟨E.φ r' [], 0, none⟩) (E.φ r' []) 0 n cap ((List.range (n * e')).map fun j => arr.getD j undef) (by simp) (.inr rfl) (fun j v hj => by
          rw [List.getElem?_map] at hj
          obtain ⟨j', hj', rfl⟩ := Option.map_eq_some_iff.1 hj
          have hlt : j < n * e' := by have := (List.getElem?_eq_some_iff.1 hj').1; simpa using this
          rw [List.getElem?_range hlt] at hj'
          cases hj'
          rw [show E.w.drew.cell? ⟨E.φ r' [], 0 + j, none⟩ = E.w.cell? ⟨E.φ r' [], 0 + j, none⟩ from rfl, cell_of_row _ _ _ _ _ _ g1, Nat.zero_add, Array.getD_eq_getD_getElem?, Array.getElem?_eq_getElem (by omega)]
          rfl)
        have hrun := append_out (P := P) (oty := o.type) he hsz hbs hc1 hz (w := E.w) (n := n) (cap := cap) hxs s3 (s4 E.w.drew rfl) (by omega) b3 b4
        have hge : n + m ≤ grownCap E.w (n + m) cap e := grownCap_ge E.w (n + m) cap e
        generalize hcells : ((List.range (n * e')).map fun j => arr.getD j undef).toArray ++ (nv.toArray ++ Builtin.zeroCells z.cells (grownCap E.w (n + m) cap e - (n + m))) = cells at hrun
        have hmade : Made E.w (E.w.drew.alloc (.cells cells e)) cells e (0, 0) := by
          have := Made.alloc E.w.drew cells e (0, 0)
          exact ⟨this.os, this.tape, this.output, this.size, this.old, this.new⟩
        have hsize : cells.size = grownCap E.w (n + m) cap e * e' := by
          rw [← hcells]
          simp only [Array.size_append, List.size_toArray, List.length_map, List.length_range, size_zeroCells, hzl, s2, ← Nat.add_mul]
          congr 1; omega
        refine fin _ _ (grownCap E.w (n + m) cap e) cells e (0, 0) (.inr ⟨rfl, _, _, _, hmade⟩) hmade.new (mk0 _) hge (by omega) (fun j hj => ?_) (fun j hj => ?_) (hexec hrun)
        · rw [← hcells, Array.getD_eq_getD_getElem?, Array.getElem?_append_left (by simpa using hj), List.getElem?_toArray, List.getElem?_map, List.getElem?_range hj]
          rfl
        · rw [← hcells, Array.getD_eq_getD_getElem?, Array.getElem?_append_right (by simp), Array.getElem?_append_left (by simp; omega), List.getElem?_toArray, ← List.getD_eq_getElem?_getD]
          simp
  · cases hr

end Go.TL
