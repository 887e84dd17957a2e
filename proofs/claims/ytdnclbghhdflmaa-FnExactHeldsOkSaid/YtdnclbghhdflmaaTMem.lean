/- Places, lengths, cuts and loads on trees, and that the model's operations come to just them. No conditions. -/
import Derived.Test.YtdnclbghhdflmaaTOps
import Derived.Laws.Cells
namespace Go.TL
open Go.RowKit

def szT (P : Program) (t : TypeId) : Option Nat := (P.info? t).map (·.size)
def bytesT (P : Program) (t : TypeId) : Option Nat := (P.info? t).map (·.bytes)
def elemT (P : Program) (t : TypeId) : Option TypeId :=
  match P.underlying t with
  | some (.slice e) => some e
  | _ => none
/-- An array's length and element type. -/
def arrT (P : Program) (t : TypeId) : Option (Nat × TypeId) :=
  match P.underlying t with
  | some (.array n e) => some (n, e)
  | _ => none
/-- A field's place and size. -/
def fldT (P : Program) (s : TypeId) (f : Nat) : Option (Nat × Nat × TypeId) :=
  match P.underlying s with
  | some (.struct fs) => (fs[f]?).bind fun x => (szT P x.type).map fun n => (x.offset, n, x.type)
  | _ => none
/-- Is it a struct or an array? -/
def aggT (P : Program) (t : TypeId) : Option Bool :=
  match P.underlying t with
  | some (.struct _) => some true
  | some (.array _ _) => some true
  | some _ => some false
  | none => none

theorem szT_run {P : Program} {t : TypeId} {n : Nat} (h : szT P t = some n) (w : World) : (sizeOf t).run P w = .ok n w := by
  obtain ⟨i, hi, rfl⟩ := Option.map_eq_some_iff.1 h
  simp [sizeOf, typeInfo, hi]

theorem elemT_run {P : Program} {t e : TypeId} (h : elemT P t = some e) : P.underlying t = some (.slice e) := by
  unfold elemT at h
  split at h
  · rename_i x hx; cases h; exact hx
  · cases h

theorem arrT_run {P : Program} {t e : TypeId} {n : Nat} (h : arrT P t = some (n, e)) : P.underlying t = some (.array n e) := by
  unfold arrT at h
  split at h
  · rename_i x hx; cases h; exact hx
  · cases h

theorem aggT_run {P : Program} {t : TypeId} {b : Bool} (h : aggT P t = some b) (w : World) : (isAgg t).run P w = .ok b w := by
  unfold aggT at h
  split at h
  · rename_i x hx; cases h; simp [isAgg, run_underlying hx]
  · rename_i x y hx; cases h; simp [isAgg, run_underlying hx]
  · rename_i x h1 h2 hx
    cases h
    simp only [isAgg, Sem.run_bind, run_underlying hx, Result.andThen_ok]
    rfl
  · cases h

/-! ### fieldAddr -/
def fieldAddrT (P : Program) (S : Store) (s : TypeId) (x : T) (f : Nat) : Option T :=
  match fldT P s f with
  | some (o, n, _) => if n = 0 then none else match x with
    | .ptr r p off => if (S.at false r p).isSome then some (.ptr r p (off + o)) else none
    | .pz k cs off => some (.pz k cs (off + o))
    | _ => none
  | none => none

theorem addr_add (b o n : Nat) : (⟨b, o, none⟩ : Addr).add n = ⟨b, o + n, none⟩ := Addr.add_lit b o n

theorem run_fieldAt {P : Program} {s : TypeId} {f : Nat} {o n : Nat} {ty : TypeId} (h : fldT P s f = some (o, n, ty)) (hn : n ≠ 0) (b off : Nat) (w : World) :
    (Instr.fieldAt s (.pointer (some ⟨b, off, none⟩)) f).run P w = .ok (.pointer (some ⟨b, off + o, none⟩)) w := by
  unfold fldT at h
  split at h
  case h_2 => cases h
  rename_i fs hs
  obtain ⟨x, hx, h⟩ := Option.bind_eq_some_iff.1 h
  obtain ⟨m, hm, h⟩ := Option.map_eq_some_iff.1 h
  simp only [Prod.mk.injEq] at h
  obtain ⟨rfl, rfl, rfl⟩ := h
  have h0 : (m = 0) = False := by simpa using hn
  simp [Instr.fieldAt, run_underlying hs, hx, Instr.sureAddr, fieldPlace, szT_run hm, h0, addr_add]

theorem fieldAddr_gives {P : Program} {o : Oper} {s : TypeId} {xo : Operand} {f : Nat} (ho : o.op = .fieldAddr s xo f) {a : Act} {E : Env} {w0 : World} {n : Nat} {fr : Nat → T}
    (h : Inv E w0) (hf : FR E n fr a) {r : T} (hr : fieldAddrT P E.S s (ev fr xo) f = some r) : Gives P o a E w0 r E.S := by
  unfold fieldAddrT at hr
  split at hr
  case h_2 => cases hr
  rename_i o1 n1 ty hfl
  split at hr
  · cases hr
  rename_i hn
  have hx := hf.ev xo
  split at hr
  · rename_i r' p' off' he
    split at hr
    case isFalse => cases hr
    rename_i hsome
    cases hr
    rw [he] at hx
    obtain ⟨y, hy⟩ := Option.isSome_iff_exists.1 hsome
    generalize hval : a.eval xo = val at hx
    cases hx with
    | ptr hr hh =>
      have := hh y hy
      refine Gives.pure h (v := .pointer (some ⟨E.φ r' p', off' + o1, none⟩)) ?_ (.ptr hr fun x hx => rfl)
      simp only [execOp, ho, hval, this, Sem.run_bind, run_fieldAt hfl hn]; rfl
  · rename_i k cs off' he
    cases hr
    rw [he] at hx
    generalize hval : a.eval xo = val at hx
    cases hx with
    | pz g hok hcell hrec =>
      rename_i b o2
      refine Gives.pure h (v := .pointer (some ⟨b, o2 + (off' + o1), none⟩)) ?_ (.pz g hok hcell hrec)
      simp only [execOp, ho, hval, Sem.run_bind, run_fieldAt hfl hn, Nat.add_assoc]; rfl
  · cases hr

/-! ### indexAddr -/
def indexAddrT (P : Program) (S : Store) (t : TypeId) (x i : T) : Option T :=
  match i with
  | .v (.int _ i) => match elemT P t with
    | some e => match szT P e with
      | some sz => match x with
        | .ref r p off n => if 0 ≤ i ∧ i < n then (if (S.at false r p).isSome then some (.ptr r p (off + i.toNat * sz)) else none) else none
        | .sl false k n e' cs => if 0 ≤ i ∧ i < n then (if e' = sz ∧ 0 < sz then some (.pz k ((cs.drop (i.toNat * sz)).take sz) 0) else none) else none
        | _ => none
      | none => none
    | none => match arrT P t with
      | some (n, e) => match szT P e with
        | some sz => match x with
          | .ptr r p off => if 0 ≤ i ∧ i < n then (if (S.at false r p).isSome then some (.ptr r p (off + i.toNat * sz)) else none) else none
          | .pz k cs off => if 0 ≤ i ∧ i < n then some (.pz k cs (off + i.toNat * sz)) else none
          | _ => none
        | none => none
      | none => none
  | _ => none

theorem run_indexAt {P : Program} {t e : TypeId} {sz : Nat} (he : elemT P t = some e) (hs : szT P e = some sz) (b off n cap : Nat) (k : IntKind) (i : Int) (h0 : 0 ≤ i) (h1 : i < n) (w : World) :
    (Instr.indexAt t (.slice (some ⟨b, off, none⟩) n cap) (.int k i)).run P w = .ok (.pointer (some ⟨b, off + i.toNat * sz, none⟩)) w := by
  have hu := elemT_run he
  simp [Instr.indexAt, run_underlying hu, asIntOf, h0, h1, szT_run hs, addr_add]

theorem run_indexAt_arr {P : Program} {t e : TypeId} {sz n : Nat} (he : arrT P t = some (n, e)) (hs : szT P e = some sz) (b off : Nat) (k : IntKind) (i : Int) (h0 : 0 ≤ i) (h1 : i < n) (w : World) :
    (Instr.indexAt t (.pointer (some ⟨b, off, none⟩)) (.int k i)).run P w = .ok (.pointer (some ⟨b, off + i.toNat * sz, none⟩)) w := by
  have hu := arrT_run he
  simp [Instr.indexAt, run_underlying hu, asIntOf, h0, h1, szT_run hs, addr_add, Instr.sureAddr]

theorem indexAddr_gives {P : Program} {o : Oper} {t : TypeId} {xo io : Operand} (ho : o.op = .indexAddr t xo io) {a : Act} {E : Env} {w0 : World} {n : Nat} {fr : Nat → T}
    (h : Inv E w0) (hf : FR E n fr a) {r : T} (hr : indexAddrT P E.S t (ev fr xo) (ev fr io) = some r) : Gives P o a E w0 r E.S := by
  unfold indexAddrT at hr
  split at hr
  case h_2 => cases hr
  rename_i ik i hi
  have hiv := (hf.ev io).toV _ _ (.int ik i) (by rw [hi]; rfl)
  have hx := hf.ev xo
  split at hr
  · rename_i e he
    split at hr
    case h_2 => cases hr
    rename_i sz hs
    split at hr
    · rename_i r' p' off' n' hxo
      split at hr
      case isFalse => cases hr
      rename_i hb
      split at hr
      case isFalse => cases hr
      rename_i hsome
      cases hr
      obtain ⟨⟨e1, cs1⟩, hy⟩ := Option.isSome_iff_exists.1 hsome
      rw [hxo] at hx
      generalize hval : a.eval xo = val at hx
      cases hx with
      | ref hr hh =>
        obtain ⟨cap, arr, ty, mk, h1, h2, h3, rfl⟩ := hh _ _ hy
        refine Gives.pure h (v := .pointer (some ⟨E.φ r' p', off' + i.toNat * sz, none⟩)) ?_ (.ptr hr fun x hx => rfl)
        simp only [execOp, ho, hval, hiv, Sem.run_bind, run_indexAt he hs _ _ _ _ _ _ hb.1 hb.2]; rfl
    · rename_i k n' e' cs hxo
      split at hr
      case isFalse => cases hr
      rename_i hb
      split at hr
      case isFalse => cases hr
      rename_i hsz
      obtain ⟨rfl, hpos⟩ := hsz
      cases hr
      rw [hxo] at hx
      generalize hval : a.eval xo = val at hx
      cases hx with
      | sl hfz =>
        cases hfz with
        | sl b off f hn hc ha hcell hrec =>
          have hne : cs ≠ [] := by
            intro hnil
            subst hnil
            have : 0 < n' * e' := Nat.mul_pos (by omega) hpos
            simp at hn
            omega
          rcases ha with ha | ⟨rfl, hok⟩
          · exact absurd ha hne
          · have hat : ∀ (j : Nat) (c : T), ((cs.drop (i.toNat * e')).take e')[j]? = some c → cs[i.toNat * e' + j]? = some c := by
              intro j c hj
              rw [List.getElem?_take] at hj
              split at hj
              · rw [List.getElem?_drop] at hj; exact hj
              · cases hj
            have := TR.pz (E := E) (k := k) (cs := (cs.drop (i.toNat * e')).take e') (off := 0) (b := b) (o := off + i.toNat * e') (fun j => f (i.toNat * e' + j)) hok
              (fun j c hj => by rw [Nat.add_assoc]; exact hcell _ c (hat j c hj)) (fun j c hj => hrec _ c (hat j c hj))
            refine Gives.pure h (v := .pointer (some ⟨b, off + i.toNat * e', none⟩)) ?_ this
            simp only [execOp, ho, hval, hiv, Sem.run_bind, run_indexAt he hs _ _ _ _ _ _ hb.1 hb.2]; rfl
    · cases hr
  · split at hr
    case h_2 => cases hr
    rename_i n' e harr
    split at hr
    case h_2 => cases hr
    rename_i sz hs
    split at hr
    · rename_i r' p' off' hxo
      split at hr
      case isFalse => cases hr
      rename_i hb
      split at hr
      case isFalse => cases hr
      rename_i hsome
      cases hr
      obtain ⟨y, hy⟩ := Option.isSome_iff_exists.1 hsome
      rw [hxo] at hx
      generalize hval : a.eval xo = val at hx
      cases hx with
      | ptr hr hh =>
        have := hh y hy
        subst this
        refine Gives.pure h (v := .pointer (some ⟨E.φ r' p', off' + i.toNat * sz, none⟩)) ?_ (.ptr hr fun x hx => rfl)
        simp only [execOp, ho, hval, hiv, Sem.run_bind, run_indexAt_arr harr hs _ _ _ _ hb.1 hb.2]; rfl
    · rename_i k cs off' hxo
      split at hr
      case isFalse => cases hr
      rename_i hb
      cases hr
      rw [hxo] at hx
      generalize hval : a.eval xo = val at hx
      cases hx with
      | pz g hok hcell hrec =>
        rename_i b o2
        refine Gives.pure h (v := .pointer (some ⟨b, o2 + (off' + i.toNat * sz), none⟩)) ?_ (.pz g hok hcell hrec)
        simp only [execOp, ho, hval, hiv, Sem.run_bind, run_indexAt_arr harr hs _ _ _ _ hb.1 hb.2, Nat.add_assoc]; rfl
    · cases hr

/-! ### load -/
def loadCell (r : Nat) (p : List Nat) (j : Nat) : T → Option T
  | .v x => some (.v x)
  | .sl false k n e cs => some (.sl false k n e cs)
  | .sl true k n _ _ => if k = 0 then some (.ref r (p ++ [j]) 0 n) else none
  | .ref r' p' off n => some (.ref r' p' off n)
  | _ => none

def loadZ (k : Nat) : T → Option T
  | .v x => some (.v x)
  | .sl _ _ n e cs => some (.sl false k n e cs)
  | _ => none

def loadN (g : Nat → T → Option T) (cs : List T) : Nat → Nat → Option (List T)
  | _, 0 => some []
  | j, m + 1 => match cs[j]? with
    | some c => match g j c with
      | some t => (loadN g cs (j + 1) m).map (t :: ·)
      | none => none
    | none => none

theorem loadN_length {g : Nat → T → Option T} {cs : List T} : ∀ (m j : Nat) (l : List T), loadN g cs j m = some l → l.length = m := by
  intro m
  induction m with
  | zero => intro j l h; simp only [loadN, Option.some.injEq] at h; subst h; rfl
  | succ m ih =>
    intro j l h
    unfold loadN at h
    split at h
    · split at h
      · obtain ⟨l', hl, rfl⟩ := Option.map_eq_some_iff.1 h
        simp [ih _ _ hl]
      · cases h
    · cases h

theorem loadN_at {g : Nat → T → Option T} {cs : List T} : ∀ (m j : Nat) (l : List T), loadN g cs j m = some l → ∀ i t, l[i]? = some t → ∃ c, cs[j + i]? = some c ∧ g (j + i) c = some t := by
  intro m
  induction m with
  | zero => intro j l h i t ht; simp only [loadN, Option.some.injEq] at h; subst h; simp at ht
  | succ m ih =>
    intro j l h i t ht
    unfold loadN at h
    split at h
    case h_2 => cases h
    rename_i c hc
    split at h
    case h_2 => cases h
    rename_i u hu
    obtain ⟨l', hl, rfl⟩ := Option.map_eq_some_iff.1 h
    cases i with
    | zero => simp only [List.getElem?_cons_zero, Option.some.injEq] at ht; subst ht; exact ⟨c, hc, hu⟩
    | succ i =>
      obtain ⟨c', h1, h2⟩ := ih (j + 1) l' hl i t (by simpa using ht)
      exact ⟨c', by rw [← h1]; congr 1; omega, by rw [← h2]; congr 1; omega⟩

def loadT (P : Program) (S : Store) (t : TypeId) (x : T) : Option T :=
  match aggT P t with
  | some agg => match szT P t with
    | some sz => match x with
      | .ptr r p off => match S.at false r p with
        | some (_, cs) => if agg then (loadN (loadCell r p) cs off sz).map .agg else (loadN (loadCell r p) cs off 1).bind (·[0]?)
        | none => none
      | .pz k cs off => if agg then (loadN (fun _ => loadZ k) cs off sz).map .agg else (loadN (fun _ => loadZ k) cs off 1).bind (·[0]?)
      | _ => none
    | none => none
  | none => none

theorem loadCell_tr {E : Env} {w0 : World} (_h : Inv E w0) {r : Nat} {p : List Nat} {e : Nat} {cs : List T} (hn : E.S.at false r p = some (e, cs)) {j : Nat} {c : T} (hc : cs[j]? = some c) {val : Value}
    (hcr : CR E r p j c val) {t : T} (ht : loadCell r p j c = some t) : TR E t val := by
  cases hcr with
  | v _ hx => simp only [loadCell, Option.some.injEq] at ht; subst ht; exact .v _
  | fz hf => simp only [loadCell, Option.some.injEq] at ht; subst ht; exact .sl hf
  | own hl hv =>
    simp only [loadCell] at ht
    split at ht
    · rename_i hk
      subst hk
      cases ht
      refine .ref (Store.at_lt hn) fun e' cs' he => ?_
      rw [Store.at_append, hn] at he
      simp only [Option.bind_some, cellsAt, hc, Bool.false_or, beq_self_eq_true, if_true, Option.some.injEq, Prod.mk.injEq] at he
      rw [← he.1]
      exact hv
    · cases ht
  | ref hv ht' => simp only [loadCell, Option.some.injEq] at ht; subst ht; exact ht'
  | dead val hv => simp [loadCell] at ht

theorem loadZ_tr {E : Env} {k : Nat} {c : T} {val : Value} (h : FzR E.w (E.okz k) c val) {t : T} (ht : loadZ k c = some t) : TR E t val := by
  cases h with
  | v _ hx => simp only [loadZ, Option.some.injEq] at ht; subst ht; exact .v _
  | sl b off f hn hc ha hcell hrec => simp only [loadZ, Option.some.injEq] at ht; subst ht; exact .sl (.sl b off f hn hc ha hcell hrec)

theorem run_loadVar_my {P : Program} {t : TypeId} {agg : Bool} {sz : Nat} (ha : aggT P t = some agg) (hs : szT P t = some sz) (b off : Nat) (w : World) (vs : List Value)
    (hlen : vs.length = if agg then sz else 1) (hc : ∀ i v, vs[i]? = some v → w.cell? ⟨b, off + i, none⟩ = some v) :
    (loadVar t ⟨b, off, none⟩).run P w = .ok (if agg then .agg vs.toArray else vs.getD 0 undef) w := by
  simp only [loadVar, Sem.run_bind, aggT_run ha, Result.andThen_ok]
  cases agg with
  | true =>
    simp only [if_true] at hlen ⊢
    subst hlen
    have := run_loadCells_list (P := P) w ⟨b, off, none⟩ vs (fun j v hj => by rw [addr_add]; exact hc j v hj)
    simp [szT_run hs, this]
  | false =>
    simp only [Bool.false_eq_true, if_false] at hlen ⊢
    obtain ⟨v, rfl⟩ : ∃ v, vs = [v] := by
      match vs, hlen with
      | [v], _ => exact ⟨v, rfl⟩
    have := hc 0 v rfl
    simp only [Nat.add_zero] at this
    simp [this]

theorem load_pure {P : Program} {o : Oper} {t : TypeId} {xo : Operand} (ho : o.op = .load t xo) {a : Act} {E : Env} {w0 : World} {n : Nat} {fr : Nat → T}
    (h : Inv E w0) (hf : FR E n fr a) {r : T} (hr : loadT P E.S t (ev fr xo) = some r) : ∃ v, (execOp a.eval o).run P E.w = .ok (.value v) E.w ∧ TR E r v := by
  unfold loadT at hr
  split at hr
  case h_2 => cases hr
  rename_i agg hagg
  split at hr
  case h_2 => cases hr
  rename_i sz hsz
  have hx := hf.ev xo
  have fin : ∀ (b off : Nat) (l : List T) (F : Nat → Value), l.length = (if agg then sz else 1) → (a.eval xo = .pointer (some ⟨b, off, none⟩)) →
      (∀ i t, l[i]? = some t → E.w.cell? ⟨b, off + i, none⟩ = some (F i) ∧ TR E t (F i)) → (if agg then r = .agg l else l[0]? = some r) → ∃ v, (execOp a.eval o).run P E.w = .ok (.value v) E.w ∧ TR E r v := by
    intro b off l F hl hv hi hrr
    have hrun := run_loadVar_my hagg hsz b off E.w ((List.range l.length).map F) (by simpa using hl) (fun i v hv => by
      rw [List.getElem?_map] at hv
      obtain ⟨i', hi', rfl⟩ := Option.map_eq_some_iff.1 hv
      have hlt : i < l.length := by
        have := (List.getElem?_eq_some_iff.1 hi').1; simpa using this
      rw [List.getElem?_range hlt] at hi'
      cases hi'
      exact (hi i _ (List.getElem?_eq_getElem hlt)).1)
    refine ⟨if agg then .agg ((List.range l.length).map F).toArray else ((List.range l.length).map F).getD 0 undef, ?_, ?_⟩
    · simp only [execOp, ho, hv, Sem.run_bind, Instr.loadAt, Instr.sureAddr, Sem.run_pure, Result.andThen_ok, hrun]
    · cases agg with
      | true =>
        simp only [if_true] at hrr ⊢
        subst hrr
        refine .agg (by simp) fun i t ht => ?_
        have hlt := (List.getElem?_eq_some_iff.1 ht).1
        rw [Array.getD_eq_getD_getElem?]
        simp only [List.getElem?_toArray, List.getElem?_map, List.getElem?_range hlt, Option.map_some, Option.getD_some]
        exact (hi i t ht).2
      | false =>
        simp only [Bool.false_eq_true, if_false] at hrr hl ⊢
        rw [hl]
        exact (hi 0 r hrr).2
  split at hr
  · rename_i r' p' off' hxo
    rw [hxo] at hx
    split at hr
    case h_2 => cases hr
    rename_i e cs hn
    obtain ⟨arr, ty, mk, hb, hlen, hmk, hB, hcr⟩ := h.blk r' p' e cs (Store.at_any hn)
    generalize hval : a.eval xo = val at hx
    have hval2 : val = .pointer (some ⟨E.φ r' p', off', none⟩) := by
      cases hx with
      | ptr hr hh => exact hh _ hn
    have key : ∀ (m : Nat) (l : List T), loadN (loadCell r' p') cs off' m = some l → ∀ i t, l[i]? = some t → E.w.cell? ⟨E.φ r' p', off' + i, none⟩ = some (arr.getD (off' + i) undef) ∧ TR E t (arr.getD (off' + i) undef) := by
      intro m l hl i t ht
      obtain ⟨c, hc, hg⟩ := loadN_at m off' l hl i t ht
      have hlt := (List.getElem?_eq_some_iff.1 hc).1
      refine ⟨?_, loadCell_tr h hn hc (hcr _ _ hc) hg⟩
      rw [cell_of_row _ _ _ _ _ _ hb, Array.getD_eq_getD_getElem?, Array.getElem?_eq_getElem (by omega)]
      rfl
    cases agg with
    | true =>
      simp only [if_true] at hr
      obtain ⟨l, hl, rfl⟩ := Option.map_eq_some_iff.1 hr
      exact fin _ _ l (fun i => arr.getD (off' + i) undef) (by simpa using loadN_length _ _ _ hl) (hval.trans hval2) (key _ l hl) (by simp)
    | false =>
      simp only [Bool.false_eq_true, if_false] at hr
      obtain ⟨l, hl, hr⟩ := Option.bind_eq_some_iff.1 hr
      exact fin _ _ l (fun i => arr.getD (off' + i) undef) (by simpa using loadN_length _ _ _ hl) (hval.trans hval2) (key _ l hl) (by simpa using hr)
  · rename_i k cs off' hxo
    rw [hxo] at hx
    generalize hval : a.eval xo = val at hx
    cases hx with
    | pz g hok hcell hrec =>
      rename_i b o2
      have key : ∀ (m : Nat) (l : List T), loadN (fun _ => loadZ k) cs off' m = some l → ∀ i t, l[i]? = some t → E.w.cell? ⟨b, o2 + off' + i, none⟩ = some (g (off' + i)) ∧ TR E t (g (off' + i)) := by
        intro m l hl i t ht
        obtain ⟨c, hc, hg⟩ := loadN_at m off' l hl i t ht
        exact ⟨by rw [Nat.add_assoc]; exact hcell _ _ hc, loadZ_tr (hrec _ _ hc) hg⟩
      cases agg with
      | true =>
        simp only [if_true] at hr
        obtain ⟨l, hl, rfl⟩ := Option.map_eq_some_iff.1 hr
        exact fin _ _ l (fun i => g (off' + i)) (by simpa using loadN_length _ _ _ hl) hval (key _ l hl) (by simp)
      | false =>
        simp only [Bool.false_eq_true, if_false] at hr
        obtain ⟨l, hl, hr⟩ := Option.bind_eq_some_iff.1 hr
        exact fin _ _ l (fun i => g (off' + i)) (by simpa using loadN_length _ _ _ hl) hval (key _ l hl) (by simpa using hr)
  · cases hr

theorem load_gives {P : Program} {o : Oper} {t : TypeId} {xo : Operand} (ho : o.op = .load t xo) {a : Act} {E : Env} {w0 : World} {n : Nat} {fr : Nat → T}
    (h : Inv E w0) (hf : FR E n fr a) {r : T} (hr : loadT P E.S t (ev fr xo) = some r) : Gives P o a E w0 r E.S := by
  obtain ⟨v, h1, h2⟩ := load_pure (P := P) ho h hf hr
  exact Gives.pure h h1 h2

end Go.TL
