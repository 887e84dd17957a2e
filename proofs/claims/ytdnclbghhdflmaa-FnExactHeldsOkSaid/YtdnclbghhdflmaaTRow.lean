/- Rows and structs written out, lengths, cuts, fields, elements: on trees, and that the model's operations come to just them. No conditions. -/
import Derived.Test.YtdnclbghhdflmaaTNew
namespace Go.TL
open Go.RowKit

def setR {α : Type} : List α → Nat → List α → List α
  | cs, _, [] => cs
  | cs, j, t :: ts => setR (cs.set j t) (j + 1) ts

theorem setR_length {α : Type} : ∀ (ts cs : List α) (j : Nat), (setR cs j ts).length = cs.length
  | [], _, _ => rfl
  | t :: ts, cs, j => by rw [setR, setR_length ts]; simp

/-- Cells and their values. -/
def RL (E : Env) (ts : List T) (vs : List Value) : Prop := vs.length = ts.length ∧ ∀ (j : Nat) (c : T), ts[j]? = some c → ∃ v : Value, vs[j]? = some v ∧ TR E c v ∧ v.oneCell' = true ∧ cellOk c = true

theorem RL.set {E : Env} {ts : List T} {vs : List Value} (h : RL E ts vs) (j : Nat) {c : T} {v : Value} (hc : TR E c v) (h1 : v.oneCell' = true) (h2 : cellOk c = true) : RL E (ts.set j c) (vs.set j v) := by
  refine ⟨by simp [h.1], fun i x hx => ?_⟩
  rw [List.getElem?_set] at hx ⊢
  split at hx
  · rename_i e
    subst e
    split at hx
    · rename_i hl
      cases hx
      rw [if_pos rfl, if_pos (by rw [h.1]; exact hl)]
      exact ⟨v, rfl, hc, h1, h2⟩
    · cases hx
  · rename_i e
    rw [if_neg e]
    exact h.2 i x hx

theorem RL.setR {E : Env} : ∀ (us : List T) (ws : List Value) {ts : List T} {vs : List Value} (j : Nat), RL E ts vs → RL E us ws → RL E (TL.setR ts j us) (TL.setR vs j ws)
  | [], ws, ts, vs, j, h, k => by
    have : ws = [] := List.eq_nil_of_length_eq_zero (by simpa using k.1)
    subst this; exact h
  | u :: us, [], _, _, _, _, k => by have := k.1; simp at this
  | u :: us, w :: ws, ts, vs, j, h, k => by
    obtain ⟨v, hv, h1, h2, h3⟩ := k.2 0 u rfl
    simp only [List.getElem?_cons_zero, Option.some.injEq] at hv
    subst hv
    exact RL.setR us ws (j + 1) (h.set j h1 h2 h3) ⟨by simpa using k.1, fun i c hc => by simpa using k.2 (i + 1) c (by simpa using hc)⟩

theorem foldl_setR : ∀ (vs : List Value) (cs : Array Value) (off k : Nat), ((vs.zipIdx k).foldl (fun (cs : Array Value) (x : Value × Nat) => cs.setIfInBounds (off + x.2) x.1) cs).toList = setR cs.toList (off + k) vs
  | [], _, _, _ => rfl
  | v :: vs, cs, off, k => by
    rw [List.zipIdx_cons, List.foldl_cons, foldl_setR vs, setR, Array.toList_setIfInBounds]
    rfl

def fillT (place : Nat → Option (Nat × Nat)) (cells : List T) : List (Nat × T) → Option (List T)
  | [] => some cells
  | (i, t) :: rest => match place i with
    | none => none
    | some (off, size) => if (compsT t).length ≠ size ∨ off + size > cells.length then none else fillT place (setR cells off (compsT t)) rest

theorem TR.rl {E : Env} {t : T} {val : Value} (h : TR E t val) (hs : storable E.S (compsT t) = true) : RL E (compsT t) val.cells.toList := by
  obtain ⟨h1, h2, h3, h4⟩ := h.comps hs
  refine ⟨by rw [Array.length_toList]; exact h1, fun j c hj => ?_⟩
  have hlt := (List.getElem?_eq_some_iff.1 hj).1
  have hg : val.cells.toList[j]? = some (val.cells.getD j undef) := by
    rw [Array.getElem?_toList, Array.getD_eq_getD_getElem?, Array.getElem?_eq_getElem (by omega)]; rfl
  exact ⟨_, hg, (h2 j c hj).1, (h2 j c hj).2, List.all_eq_true.1 h3 _ (List.mem_of_getElem? hj)⟩

theorem fill_rl {E : Env} {place : Nat → Option (Nat × Nat)} : ∀ (parts : List (Nat × T)) (vparts : List (Nat × Value)) (cells : List T) (vcells : Array Value) (r : List T),
    RL E cells vcells.toList → vparts.length = parts.length → (∀ (j : Nat) (x : Nat × T), parts[j]? = some x → ∃ v : Value, vparts[j]? = some (x.1, v) ∧ TR E x.2 v ∧ storable E.S (compsT x.2) = true) →
    fillT place cells parts = some r → ∃ rv, Instr.fill place vcells vparts = some rv ∧ RL E r rv.toList
  | [], vparts, cells, vcells, r, h, hl, _, hr => by
    have : vparts = [] := List.eq_nil_of_length_eq_zero (by simpa using hl)
    subst this
    simp only [fillT, Option.some.injEq] at hr
    subst hr
    exact ⟨vcells, rfl, h⟩
  | (i, t) :: parts, [], _, _, _, _, hl, _, _ => by simp at hl
  | (i, t) :: parts, y :: vparts, cells, vcells, r, h, hl, hp, hr => by
    obtain ⟨v, hv, ht, hs⟩ := hp 0 (i, t) rfl
    simp only [List.getElem?_cons_zero, Option.some.injEq] at hv
    subst hv
    have hrl := ht.rl hs
    simp only [fillT] at hr
    split at hr
    · cases hr
    rename_i off size hpl
    split at hr
    · cases hr
    rename_i hb
    have hb1 : (compsT t).length = size := by
      rcases Nat.decEq (compsT t).length size with h1 | h1
      · exact absurd (.inl h1) hb
      · exact h1
    have hb2 : ¬ off + size > cells.length := fun hh => hb (.inr hh)
    have hvs : v.cells.size = size := by rw [← Array.length_toList, hrl.1, hb1]
    have hcs : vcells.size = cells.length := by rw [← Array.length_toList, h.1]
    have e1 : (v.cells.zipIdx.foldl (fun cs (c, j) => cs.setIfInBounds (off + j) c) vcells).toList = setR vcells.toList off v.cells.toList := by
      rw [← Array.foldl_toList, Array.toList_zipIdx]
      have := foldl_setR v.cells.toList vcells off 0
      simpa using this
    obtain ⟨rv, h1, h2⟩ := fill_rl parts vparts (setR cells off (compsT t)) (v.cells.zipIdx.foldl (fun cs (c, j) => cs.setIfInBounds (off + j) c) vcells) r
      (by rw [e1]; exact RL.setR _ _ off h hrl) (by simpa using hl) (fun j x hx => by simpa using hp (j + 1) x (by simpa using hx)) hr
    refine ⟨rv, ?_, h2⟩
    unfold Instr.fill
    simp only [hpl]
    rw [if_neg (by rw [hvs, hcs]; simp; omega)]
    exact h1

theorem RL.vs {E : Env} {vs : List Value} (h : vs.all (·.oneCell') = true) : RL E (vs.map T.v) vs := by
  refine ⟨by simp, fun j c hj => ?_⟩
  rw [List.getElem?_map] at hj
  obtain ⟨v, hv, rfl⟩ := Option.map_eq_some_iff.1 hj
  have := List.all_eq_true.1 h _ (List.mem_of_getElem? hv)
  exact ⟨v, hv, .v v, this, this⟩

theorem RL.new {E : Env} {ts : List T} {vs : Array Value} (h : RL E ts vs.toList) : ts.all cellOk = true ∧ ts.length ≤ vs.size ∧ ∀ (j : Nat) (c : T), ts[j]? = some c → TR E c (vs.getD j undef) ∧ (vs.getD j undef).oneCell' = true := by
  refine ⟨List.all_eq_true.2 fun c hc => ?_, by rw [← h.1]; simp, fun j c hj => ?_⟩
  · obtain ⟨j, hj⟩ := List.getElem?_of_mem hc
    exact (h.2 j c hj).choose_spec.2.2.2
  · obtain ⟨v, h1, h2, h3, _⟩ := h.2 j c hj
    rw [Array.getElem?_toList] at h1
    rw [Array.getD_eq_getD_getElem?, h1]
    exact ⟨h2, h3⟩

def partsT (fr : Nat → T) (parts : Array (Nat × Operand)) : List (Nat × T) := parts.toList.map fun x => (x.1, ev fr x.2)

def partsOk (S : Store) (ps : List (Nat × T)) : Bool := ps.all fun x => storable S (compsT x.2)

theorem parts_rl {E : Env} {n : Nat} {fr : Nat → T} {a : Act} (hf : FR E n fr a) {parts : Array (Nat × Operand)} (hs : partsOk E.S (partsT fr parts) = true) :
    ((parts.map fun (i, x) => (i, a.eval x)).toList.length = (partsT fr parts).length) ∧ ∀ (j : Nat) (x : Nat × T), (partsT fr parts)[j]? = some x → ∃ v : Value, (parts.map fun (i, x) => (i, a.eval x)).toList[j]? = some (x.1, v) ∧ TR E x.2 v ∧ storable E.S (compsT x.2) = true := by
  refine ⟨by simp [partsT], fun j x hx => ?_⟩
  have hm := List.all_eq_true.1 hs x (List.mem_of_getElem? hx)
  simp only [partsT, List.getElem?_map] at hx
  obtain ⟨y, hy, rfl⟩ := Option.map_eq_some_iff.1 hx
  refine ⟨a.eval y.2, ?_, hf.ev y.2, hm⟩
  rw [Array.toList_map, List.getElem?_map, hy]
  rfl

/-! ### buildSlice -/
def repT (zs : List T) (n : Nat) : List T := (List.replicate n zs).flatten

theorem rl_rep {E : Env} {zs : List T} {z : Array Value} (h : RL E zs z.toList) (n : Nat) : RL E (repT zs n) ((Array.range (n * z.size)).map (fun i => z[i % z.size]!)).toList := by
  have hzl : zs.length = z.size := by rw [← h.1]; simp
  have key : ∀ (n j : Nat) (c : T), (repT zs n)[j]? = some c → j < n * z.size ∧ zs[j % z.size]? = some c := by
    intro n
    induction n with
    | zero => intro j c hj; simp [repT] at hj
    | succ n ih =>
      intro j c hj
      have e : repT zs (n + 1) = zs ++ repT zs n := by simp [repT, List.replicate_succ]
      rw [e] at hj
      rcases Nat.lt_or_ge j zs.length with hlt | hge
      · rw [List.getElem?_append_left hlt] at hj
        rw [Nat.mod_eq_of_lt (by omega)]
        exact ⟨by rw [Nat.succ_mul]; omega, hj⟩
      · rw [List.getElem?_append_right hge] at hj
        obtain ⟨h1, h2⟩ := ih _ _ hj
        rw [hzl] at h1 h2 hge
        refine ⟨by rw [Nat.succ_mul]; omega, ?_⟩
        rw [← h2, Nat.mod_eq_sub_mod hge]
  refine ⟨by simp [repT, hzl], fun j c hj => ?_⟩
  obtain ⟨h1, h2⟩ := key n j c hj
  obtain ⟨v, h3, h4⟩ := h.2 _ _ h2
  refine ⟨v, ?_, h4⟩
  rw [Array.toList_map, List.getElem?_map, Array.getElem?_toList, Array.getElem?_range, if_pos h1]
  simp only [Option.map_some, Option.some.injEq]
  rw [Array.getElem?_toList] at h3
  rw [getElem!_def, h3]

theorem flatten_rep_len (zs : List T) (n : Nat) : (repT zs n).length = n * zs.length := by simp [repT]

def buildSliceT (P : Program) (S : Store) (t : TypeId) (len : Nat) (ps : List (Nat × T)) : Option (T × Store) :=
  match elemT P t with
  | some e => match szT P e, zeroT P e with
    | some sz, some zs =>
      if sz = 0 ∨ len * sz > 2 ^ 24 ∨ zs.length ≠ sz ∨ partsOk S ps = false then none else
      (fillT (fun i => some (i * sz, sz)) (repT zs len) ps).map fun cs => (.ref S.length [] 0 len, S ++ [⟨sz, true, cs⟩])
    | _, _ => none
  | none => none

theorem fillT_length {place : Nat → Option (Nat × Nat)} : ∀ (ps : List (Nat × T)) (cells r : List T), fillT place cells ps = some r → r.length = cells.length
  | [], cells, r, h => by simp only [fillT, Option.some.injEq] at h; rw [h]
  | (i, t) :: ps, cells, r, h => by
    simp only [fillT] at h
    split at h
    · cases h
    split at h
    · cases h
    rw [fillT_length ps _ r h, setR_length]

theorem ref_new (E : Env) {w' : World} {cells : Array Value} {ty : TypeId} {mk : Nat × Nat} (hm : Made E.w w' cells ty mk) (e n cap : Nat) (cs : List T) (hn : n ≤ cap) (hc : cap * e ≤ cells.size) :
    TR (E.push w' ⟨e, true, cs⟩) (.ref E.S.length [] 0 n) (.slice (some ⟨E.w.heap.size, 0, none⟩) n cap) := by
  refine .ref (by simp [Env.push]) fun e' cs' h => ?_
  rw [show (E.push w' ⟨e, true, cs⟩).S.at false E.S.length [] = some (e, cs) from Env.push_at] at h
  cases h
  have e1 : (E.push w' ⟨e, true, cs⟩).φ E.S.length [] = E.w.heap.size := by simp [Env.push]
  rw [e1]
  exact ⟨cap, cells, ty, mk, hm.new, hn, by omega, rfl⟩

theorem buildSlice_gives {P : Program} {o : Oper} {t : TypeId} {len : Nat} {parts : Array (Nat × Operand)} (ho : o.op = .buildSlice t len parts) {a : Act} {E : Env} {w0 : World} {n : Nat} {fr : Nat → T}
    (h : Inv E w0) (hf : FR E n fr a) {r : T} {S' : Store} (hr : buildSliceT P E.S t len (partsT fr parts) = some (r, S')) : Gives P o a E w0 r S' := by
  unfold buildSliceT at hr
  split at hr
  case h_2 => cases hr
  rename_i e he
  split at hr
  case h_2 => cases hr
  rename_i sz zs hsz hzs
  split at hr
  · cases hr
  rename_i hc
  simp only [not_or] at hc
  obtain ⟨hc1, hc2, hc3, hc4⟩ := hc
  obtain ⟨cs, hcs, hr⟩ := Option.map_eq_some_iff.1 hr
  cases hr
  obtain ⟨z, hz, rfl, ha⟩ := zeroT_run hzs
  have hzl : z.cells.size = sz := by
    have : (z.cells.toList.map T.v).length = sz := by
      rcases Nat.decEq (z.cells.toList.map T.v).length sz with h1 | h1
      · exact absurd h1 hc3
      · exact h1
    simpa using this
  subst hzl
  obtain ⟨hp1, hp2⟩ := parts_rl hf (by simpa using hc4)
  have hrep := rl_rep (E := E) (z := z.cells) (RL.vs ha) len
  obtain ⟨rv, h1, h2⟩ := fill_rl (partsT fr parts) _ _ _ cs hrep hp1 hp2 hcs
  have hl := fillT_length _ _ _ hcs
  obtain ⟨n1, n2, n3⟩ := h2.new
  have hrs : rv.size = len * z.cells.size := by
    have : cs.length = rv.size := by rw [← h2.1]; simp
    rw [← this, hl, flatten_rep_len]; simp
  refine Inv.new h (Made.alloc _ rv e _) (mk0 _) _ cs n1 n2 n3 (v := .slice (some ⟨E.w.heap.size, 0, none⟩) len len) ?_ (ref_new E (Made.alloc _ rv e _) _ len len cs (Nat.le_refl _) (by omega))
  have hu := elemT_run he
  have hrun : (Instr.buildSlice t len (parts.map fun (i, x) => (i, a.eval x))).run P E.w = .ok (.slice (some ⟨E.w.heap.size, 0, none⟩) len len) (E.w.alloc (.cells rv e)) := by
    unfold Instr.buildSlice
    simp only [Sem.run_bind, run_underlying hu, Result.andThen_ok, szT_run hsz]
    rw [if_neg hc2]
    rcases Nat.eq_zero_or_pos (len * z.cells.size) with h0 | h0
    · have hlen0 : len = 0 := by
        rcases Nat.mul_eq_zero.1 h0 with h5 | h5
        · exact h5
        · exact absurd h5 hc1
      subst hlen0
      simp only [Nat.zero_mul, if_true, Sem.run_bind, Sem.run_pure, Result.andThen_ok]
      have e3 : (Array.range 0).map (fun i => (#[] : Array Value)[i % (#[] : Array Value).size]!) = (Array.range (0 * z.cells.size)).map (fun i => z.cells[i % z.cells.size]!) := by simp
      rw [e3, h1]
      simp only [newRow, Sem.run_bind, run_newObj, Result.andThen_ok, Sem.run_pure]
      rfl
    · rw [if_neg (by omega)]
      simp only [Sem.run_bind, hz, Result.andThen_ok, Sem.run_pure]
      rw [h1]
      simp only [newRow, Sem.run_bind, run_newObj, Result.andThen_ok, Sem.run_pure]
      rfl
  simp only [execOp, ho, Sem.run_bind, hrun, Result.andThen_ok, Sem.run_pure]

/-! ### build: a struct or an array -/
def fldsT (P : Program) : List Field → Option (List (Nat × Nat))
  | [] => some []
  | f :: fs => (szT P f.type).bind fun n => (fldsT P fs).map fun l => (f.offset, n) :: l

def buildT (P : Program) (S : Store) (t : TypeId) (ps : List (Nat × T)) : Option T :=
  match zeroT P t with
  | some zs => if partsOk S ps = false then none else match P.underlying t with
    | some (.struct fs) => (fldsT P fs.toList).bind fun l => (fillT (fun i => l[i]?) zs ps).map .agg
    | some (.array _ e) => (szT P e).bind fun sz => (fillT (fun i => some (i * sz, sz)) zs ps).map .agg
    | _ => none
  | none => none

theorem fldsT_run {P : Program} : ∀ (fs : List Field) (l : List (Nat × Nat)), fldsT P fs = some l → ∀ w, (fs.mapM (fun f => do pure (f.offset, ← sizeOf f.type)) : Sem (List (Nat × Nat))).run P w = .ok l w
  | [], l, h, w => by simp only [fldsT, Option.some.injEq] at h; subst h; rfl
  | f :: fs, l, h, w => by
    simp only [fldsT] at h
    obtain ⟨n, hn, h⟩ := Option.bind_eq_some_iff.1 h
    obtain ⟨l', hl, rfl⟩ := Option.map_eq_some_iff.1 h
    rw [List.mapM_cons]
    simp only [Sem.run_bind, szT_run hn, Result.andThen_ok, Sem.run_pure, fldsT_run fs l' hl w]

theorem RL.agg {E : Env} {ts : List T} {vs : Array Value} (h : RL E ts vs.toList) : TR E (.agg ts) (.agg vs) :=
  .agg (by rw [← h.1]; simp) fun j c hj => (h.new.2.2 j c hj).1

theorem build_gives {P : Program} {o : Oper} {t : TypeId} {parts : Array (Nat × Operand)} (ho : o.op = .build t parts) {a : Act} {E : Env} {w0 : World} {n : Nat} {fr : Nat → T}
    (h : Inv E w0) (hf : FR E n fr a) {r : T} (hr : buildT P E.S t (partsT fr parts) = some r) : Gives P o a E w0 r E.S := by
  unfold buildT at hr
  split at hr
  case h_2 => cases hr
  rename_i zs hzs
  split at hr
  · cases hr
  rename_i hok
  obtain ⟨z, hz, rfl, ha⟩ := zeroT_run hzs
  obtain ⟨hp1, hp2⟩ := parts_rl hf (by simpa using hok)
  split at hr
  · rename_i fs hu
    obtain ⟨l, hl, hr⟩ := Option.bind_eq_some_iff.1 hr
    obtain ⟨cs, hcs, rfl⟩ := Option.map_eq_some_iff.1 hr
    obtain ⟨rv, h1, h2⟩ := fill_rl (partsT fr parts) _ _ _ cs (RL.vs ha) hp1 hp2 hcs
    refine Gives.pure h (v := .agg rv) ?_ h2.agg
    have hrun : (Instr.build t (parts.map fun (i, x) => (i, a.eval x))).run P E.w = .ok (.agg rv) E.w := by
      unfold Instr.build
      simp only [Sem.run_bind, hz, Result.andThen_ok, run_underlying hu]
      have e1 : (fs.mapM (fun f => do pure (f.offset, ← sizeOf f.type)) : Sem (Array (Nat × Nat))).run P E.w = .ok l.toArray E.w := by
        rw [Array.mapM_eq_mapM_toList]
        simp only [Sem.run_map, fldsT_run fs.toList l hl E.w, Result.andThen_ok]
      rw [e1]
      simp only [Result.andThen_ok, List.getElem?_toArray]
      rw [h1]
      rfl
    simp only [execOp, ho, Sem.run_bind, hrun, Result.andThen_ok, Sem.run_pure]
  · rename_i n1 e hu
    obtain ⟨sz, hsz, hr⟩ := Option.bind_eq_some_iff.1 hr
    obtain ⟨cs, hcs, rfl⟩ := Option.map_eq_some_iff.1 hr
    obtain ⟨rv, h1, h2⟩ := fill_rl (partsT fr parts) _ _ _ cs (RL.vs ha) hp1 hp2 hcs
    refine Gives.pure h (v := .agg rv) ?_ h2.agg
    have hrun : (Instr.build t (parts.map fun (i, x) => (i, a.eval x))).run P E.w = .ok (.agg rv) E.w := by
      unfold Instr.build
      simp only [Sem.run_bind, hz, Result.andThen_ok, run_underlying hu, szT_run hsz]
      rw [h1]
      rfl
    simp only [execOp, ho, Sem.run_bind, hrun, Result.andThen_ok, Sem.run_pure]
  · cases hr

/-! ### makeSlice -/
def makeSliceT (P : Program) (S : Store) (t : TypeId) (l c : T) : Option (T × Store) :=
  match l, c with
  | .v (.int _ l), .v (.int _ c) => match elemT P t with
    | some e => match szT P e, bytesT P e, zeroT P e with
      | some sz, some bs, some zs =>
        if 0 ≤ l ∧ l ≤ c ∧ c < 2 ^ 63 ∧ (bs : Int) * c ≤ 2 ^ 48 ∧ zs.length = sz ∧ 0 < sz then some (.ref S.length [] 0 l.toNat, S ++ [⟨sz, true, repT zs l.toNat⟩]) else none
      | _, _, _ => none
    | none => none
  | _, _ => none

theorem wrap_i64 (x : Int) (h0 : 0 ≤ x) (h1 : x < 2 ^ 63) : IntKind.i64.wrap x = x := by
  unfold IntKind.wrap
  have e : x % 2 ^ 64 = x := by omega
  simp only [IntKind.bits, IntKind.signed, e, Bool.true_and]
  rw [if_neg]
  simp
  omega

theorem makeSlice_gives {P : Program} {o : Oper} {t : TypeId} {lo co : Operand} (ho : o.op = .makeSlice t lo co) {a : Act} {E : Env} {w0 : World} {n : Nat} {fr : Nat → T}
    (h : Inv E w0) (hf : FR E n fr a) {r : T} {S' : Store} (hr : makeSliceT P E.S t (ev fr lo) (ev fr co) = some (r, S')) : Gives P o a E w0 r S' := by
  unfold makeSliceT at hr
  split at hr
  case h_2 => cases hr
  rename_i kl l kc c hl hc
  have hlv := (hf.ev lo).toV _ _ (.int kl l) (by rw [hl]; rfl)
  have hcv := (hf.ev co).toV _ _ (.int kc c) (by rw [hc]; rfl)
  split at hr
  case h_2 => cases hr
  rename_i e he
  split at hr
  case h_2 => cases hr
  rename_i sz bs zs hsz hbs hzs
  split at hr
  case isFalse => cases hr
  rename_i hb
  obtain ⟨b1, b2, b3, b4, b5, b6⟩ := hb
  cases hr
  obtain ⟨z, hz, rfl, ha⟩ := zeroT_run hzs
  have hzl : z.cells.size = sz := by simpa using b5
  obtain ⟨i, hi, hbi⟩ := Option.map_eq_some_iff.1 hbs
  have hu := elemT_run he
  have hrl := rl_rep (E := E) (z := z.cells) (RL.vs ha) c.toNat
  have hwl := wrap_i64 l b1 (by omega)
  have hwc := wrap_i64 c (by omega) b3
  have hpre : ∀ (j : Nat) (x : T), (repT (z.cells.toList.map T.v) l.toNat)[j]? = some x → (repT (z.cells.toList.map T.v) c.toNat)[j]? = some x := by
    intro j x hj
    have e1 : repT (z.cells.toList.map T.v) c.toNat = repT (z.cells.toList.map T.v) l.toNat ++ repT (z.cells.toList.map T.v) (c.toNat - l.toNat) := by
      unfold repT
      rw [← List.flatten_append, List.replicate_append_replicate]
      congr 2
      omega
    rw [e1, List.getElem?_append_left (List.getElem?_eq_some_iff.1 hj).1]
    exact hj
  have hlen : (repT (z.cells.toList.map T.v) l.toNat).length = l.toNat * sz := by rw [flatten_rep_len]; simp [hzl]
  have hall : (repT (z.cells.toList.map T.v) l.toNat).all cellOk = true := by
    refine List.all_eq_true.2 fun x hx => ?_
    obtain ⟨j, hj⟩ := List.getElem?_of_mem hx
    exact (hrl.2 j x (hpre j x hj)).choose_spec.2.2.2
  have hsize : ((Array.range (c.toNat * z.cells.size)).map (fun i => z.cells[i % z.cells.size]!)).size = c.toNat * sz := by simp [hzl]
  refine Inv.new h (Made.alloc _ ((Array.range (c.toNat * z.cells.size)).map (fun i => z.cells[i % z.cells.size]!)) e _) (mk0 _) sz _ hall ?_ (fun j x hj => hrl.new.2.2 j x (hpre j x hj)) (v := .slice (some ⟨E.w.heap.size, 0, none⟩) l.toNat c.toNat) ?_
    (ref_new E (Made.alloc _ _ e _) sz l.toNat c.toNat _ (by omega) (by omega))
  · rw [hlen, hsize]; exact Nat.mul_le_mul_right _ (by omega)
  · have hnt : ¬ (c < 0 ∨ (bs : Int) * c > 2 ^ 48) := by omega
    have hrun : (Instr.makeSlice t (.int kl l) (.int kc c)).run P E.w = .ok (.slice (some ⟨E.w.heap.size, 0, none⟩) l.toNat c.toNat) (E.w.alloc (.cells ((Array.range (c.toNat * z.cells.size)).map (fun i => z.cells[i % z.cells.size]!)) e)) := by
      unfold Instr.makeSlice
      simp only [Sem.run_bind, run_underlying hu, Result.andThen_ok, asInt, asIntOf, Sem.run_pure, typeInfo, run_program, hi, hbi, hwl, hwc]
      rw [if_neg (by simp; omega)]
      simp only [Sem.run_bind, run_askRoom, Result.andThen_ok, szT_run hsz]
      have fin : ∀ (zz : Array Value), (Array.range (c.toNat * sz)).map (fun i => zz[i % zz.size]!) = (Array.range (c.toNat * z.cells.size)).map (fun i => z.cells[i % z.cells.size]!) →
          (Sem.run P (do let a ← newRow e ((Array.range (c.toNat * sz)).map (fun i => zz[i % zz.size]!)); pure (Value.slice (some a) l.toNat c.toNat)) E.w) = .ok (.slice (some ⟨E.w.heap.size, 0, none⟩) l.toNat c.toNat) (E.w.alloc (.cells ((Array.range (c.toNat * z.cells.size)).map (fun i => z.cells[i % z.cells.size]!)) e)) := by
        intro zz hzz
        rw [hzz]
        simp only [newRow, Sem.run_bind, run_newObj, Result.andThen_ok, Sem.run_pure]
        rfl
      by_cases h0 : c.toNat * sz = 0
      · simp only [h0, if_true, Sem.run_bind, Sem.run_pure, Result.andThen_ok]
        have := fin #[] (by simp [hzl, h0])
        rw [h0] at this
        simp only [Sem.run_bind, Sem.run_pure] at this
        exact this
      · simp only [h0, if_false, Sem.run_bind, Sem.run_pure, Result.andThen_ok, hz]
        have := fin z.cells (by rw [hzl])
        simp only [Sem.run_bind, Sem.run_pure] at this
        exact this
    simp only [execOp, ho, Sem.run_bind, hlv, hcv, hrun, Result.andThen_ok, Sem.run_pure]

end Go.TL
