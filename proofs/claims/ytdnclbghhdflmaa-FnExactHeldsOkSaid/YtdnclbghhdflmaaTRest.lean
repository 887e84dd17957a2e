/- Fields, elements, lengths, cuts and conversions on trees. No conditions. -/
import Derived.Test.YtdnclbghhdflmaaTRow
namespace Go.TL
open Go.RowKit

/-! ### values alone: any operation whose operands are all plain -/
def fieldT (P : Program) (t : TypeId) (x : T) (f : Nat) : Option T :=
  match fldT P t f with
  | some (off, n, ty) => match aggT P ty with
    | some agg => match x with
      | .agg ts => if agg then (if off + n ≤ ts.length then some (.agg ((ts.drop off).take n)) else none) else ts[off]?
      | _ => none
    | none => none
  | none => none

theorem run_part {P : Program} {t : TypeId} {agg : Bool} {n : Nat} (ha : aggT P t = some agg) (hs : szT P t = some n) (cs : Array Value) (off : Nat) (hb : off + (if agg then n else 1) ≤ cs.size) (w : World) :
    (part t cs off).run P w = .ok (if agg then .agg (cs.extract off (off + n)) else cs.getD off undef) w := by
  unfold part
  simp only [Sem.run_bind, aggT_run ha, Result.andThen_ok]
  cases agg with
  | true => simp only [if_true, Sem.run_bind, szT_run hs, Result.andThen_ok, Sem.run_pure]
  | false =>
    simp only [Bool.false_eq_true, if_false] at hb ⊢
    rw [Array.getD_eq_getD_getElem?, Array.getElem?_eq_getElem (by omega)]
    rfl

theorem agg_part {E : Env} {ts : List T} {vs : Array Value} (hs : vs.size = ts.length) (hh : ∀ i t, ts[i]? = some t → TR E t (vs.getD i undef)) {off n : Nat} (hb : off + n ≤ ts.length) :
    TR E (.agg ((ts.drop off).take n)) (.agg (vs.extract off (off + n))) := by
  refine .agg (by simp; omega) fun i t ht => ?_
  have hi : i < n := by have := (List.getElem?_eq_some_iff.1 ht).1; simp at this; omega
  rw [List.getElem?_take_of_lt hi, List.getElem?_drop] at ht
  have := hh _ _ ht
  rw [Array.getD_eq_getD_getElem?] at this ⊢
  rw [Array.getElem?_extract, if_pos (by omega)]
  exact this

theorem field_gives {P : Program} {o : Oper} {t : TypeId} {xo : Operand} {f : Nat} (ho : o.op = .field t xo f) {a : Act} {E : Env} {w0 : World} {n : Nat} {fr : Nat → T}
    (h : Inv E w0) (hf : FR E n fr a) {r : T} (hr : fieldT P t (ev fr xo) f = some r) : Gives P o a E w0 r E.S := by
  unfold fieldT at hr
  split at hr
  case h_2 => cases hr
  rename_i off m ty hfl
  split at hr
  case h_2 => cases hr
  rename_i agg hagg
  split at hr
  case h_2 => cases hr
  rename_i ts hts
  have hx := hf.ev xo
  rw [hts] at hx
  generalize hval : a.eval xo = val at hx
  cases hx with
  | agg hs hh =>
    rename_i vs
    unfold fldT at hfl
    split at hfl
    case h_2 => cases hfl
    rename_i fs hu
    obtain ⟨y, hy, hfl⟩ := Option.bind_eq_some_iff.1 hfl
    obtain ⟨m', hm, hfl⟩ := Option.map_eq_some_iff.1 hfl
    simp only [Prod.mk.injEq] at hfl
    obtain ⟨rfl, rfl, rfl⟩ := hfl
    have hb : y.offset + (if agg then m' else 1) ≤ vs.size := by
      cases agg with
      | true =>
        simp only [if_true] at hr ⊢
        split at hr
        · omega
        · cases hr
      | false => simp only [Bool.false_eq_true, if_false] at hr ⊢; have := (List.getElem?_eq_some_iff.1 hr).1; omega
    refine Gives.pure h (v := if agg then .agg (vs.extract y.offset (y.offset + m')) else vs.getD y.offset undef) ?_ ?_
    · simp only [execOp, ho, hval, Sem.run_bind, Instr.field, run_underlying hu, Result.andThen_ok, hy, asAgg, Sem.run_pure, run_part hagg hm vs y.offset hb]
    · cases agg with
      | true =>
        simp only [if_true] at hr ⊢
        split at hr
        · rename_i hle; cases hr; exact agg_part hs hh hle
        · cases hr
      | false => simp only [Bool.false_eq_true, if_false] at hr ⊢; exact hh _ _ hr

/-- An element of a string or of an array that lies in a slot. -/
def indexT (P : Program) (t : TypeId) (x i : T) : Option T :=
  match i with
  | .v (.int _ i) => match x with
    | .v (.string s) => match P.underlying t with
      | some .string => if 0 ≤ i then (s[i.toNat]?).map fun b => .v (.int .u8 b.toNat) else none
      | _ => none
    | .agg ts => match arrT P t with
      | some (n, e) => match szT P e, aggT P e with
        | some sz, some agg => if 0 ≤ i ∧ i < n then (if agg then (if i.toNat * sz + sz ≤ ts.length then some (.agg ((ts.drop (i.toNat * sz)).take sz)) else none) else ts[i.toNat * sz]?) else none
        | _, _ => none
      | none => none
    | _ => none
  | _ => none

theorem index_gives {P : Program} {o : Oper} {t : TypeId} {xo io : Operand} (ho : o.op = .index t xo io) {a : Act} {E : Env} {w0 : World} {n : Nat} {fr : Nat → T}
    (h : Inv E w0) (hf : FR E n fr a) {r : T} (hr : indexT P t (ev fr xo) (ev fr io) = some r) : Gives P o a E w0 r E.S := by
  unfold indexT at hr
  split at hr
  case h_2 => cases hr
  rename_i ik i hi
  have hiv := (hf.ev io).toV _ _ (.int ik i) (by rw [hi]; rfl)
  split at hr
  · rename_i s hs
    have hxv := (hf.ev xo).toV _ _ (.string s) (by rw [hs]; rfl)
    split at hr
    case h_2 => cases hr
    rename_i hu
    split at hr
    case isFalse => cases hr
    rename_i h0
    obtain ⟨b, hb, rfl⟩ := Option.map_eq_some_iff.1 hr
    refine Gives.pure h (v := .int .u8 b.toNat) ?_ (.v _)
    simp only [execOp, ho, hiv, hxv, Sem.run_bind, Instr.index, asIntOf, Sem.run_pure, Result.andThen_ok, run_underlying hu, h0, if_true, hb]
  · rename_i ts hts
    split at hr
    case h_2 => cases hr
    rename_i m e harr
    split at hr
    case h_2 => cases hr
    rename_i sz agg hsz hagg
    split at hr
    case isFalse => cases hr
    rename_i hb
    have hx := hf.ev xo
    rw [hts] at hx
    generalize hval : a.eval xo = val at hx
    cases hx with
    | agg hs hh =>
      rename_i vs
      have hle : i.toNat * sz + (if agg then sz else 1) ≤ vs.size := by
        cases agg with
        | true =>
          simp only [if_true] at hr ⊢
          split at hr
          · omega
          · cases hr
        | false => simp only [Bool.false_eq_true, if_false] at hr ⊢; have := (List.getElem?_eq_some_iff.1 hr).1; omega
      refine Gives.pure h (v := if agg then .agg (vs.extract (i.toNat * sz) (i.toNat * sz + sz)) else vs.getD (i.toNat * sz) undef) ?_ ?_
      · simp only [execOp, ho, hval, hiv, Sem.run_bind, Instr.index, asIntOf, Sem.run_pure, Result.andThen_ok, run_underlying (arrT_run harr)]
        rw [if_pos hb]
        simp only [Sem.run_bind, szT_run hsz, Result.andThen_ok, run_part hagg hsz vs _ hle]
      · cases agg with
        | true =>
          simp only [if_true] at hr ⊢
          split at hr
          · rename_i hl; cases hr; exact agg_part hs hh hl
          · cases hr
        | false => simp only [Bool.false_eq_true, if_false] at hr ⊢; exact hh _ _ hr
  · cases hr

/-! ### len -/
def lenT (P : Program) (S : Store) (t : TypeId) (x : T) : Option T :=
  match x with
  | .v (.string s) => match P.underlying t with
    | some .string => some (.v (.int .i64 s.size))
    | _ => none
  | .v (.slice none 0 0) => (elemT P t).map fun _ => .v (.int .i64 0)
  | .sl false _ n _ _ => (elemT P t).map fun _ => .v (.int .i64 n)
  | .ref r p _ n => if (S.at false r p).isSome then (elemT P t).map fun _ => .v (.int .i64 n) else none
  | _ => none

theorem len_gives {P : Program} {o : Oper} {t : TypeId} {xo : Operand} (ho : o.op = .call { callee := .builtin .len, args := #[xo], argTypes := #[t] }) {a : Act} {E : Env} {w0 : World} {n : Nat} {fr : Nat → T}
    (h : Inv E w0) (hf : FR E n fr a) {r : T} (hr : lenT P E.S t (ev fr xo) = some r) : Gives P o a E w0 r E.S := by
  have fin : ∀ (m : Int), (Builtin.len_ #[t] o.type #[a.eval xo]).run P E.w = .ok (.int .i64 m) E.w → r = .v (.int .i64 m) → Gives P o a E w0 r E.S := by
    intro m hm hrm
    subst hrm
    refine Gives.pure h (v := .int .i64 m) ?_ (.v _)
    simp only [execOp, ho, resolve, invoke, builtin, Sem.run_bind, Sem.run_pure, Result.andThen_ok, List.map_toArray, List.map_cons, List.map_nil, hm]
  unfold lenT at hr
  split at hr
  · rename_i s hs
    have hxv := (hf.ev xo).toV _ _ (.string s) (by rw [hs]; rfl)
    split at hr
    case h_2 => cases hr
    rename_i hu
    cases hr
    refine fin _ ?_ rfl
    rw [hxv]
    simp [Builtin.len_, run_underlying hu, goInt]
  · rename_i hs
    have hxv := (hf.ev xo).toV _ _ (.slice none 0 0) (by rw [hs]; rfl)
    obtain ⟨e, he, rfl⟩ := Option.map_eq_some_iff.1 hr
    refine fin _ ?_ rfl
    rw [hxv]
    simp [Builtin.len_, run_underlying (elemT_run he), goInt]
  · rename_i k m e' cs hs
    obtain ⟨e, he, rfl⟩ := Option.map_eq_some_iff.1 hr
    have hx := hf.ev xo
    rw [hs] at hx
    generalize hval : a.eval xo = val at hx
    cases hx with
    | sl hfz =>
      cases hfz with
      | sl b off f hn hc ha hcell hrec =>
        refine fin _ ?_ rfl
        rw [hval]
        simp [Builtin.len_, run_underlying (elemT_run he), goInt]
  · rename_i r' p' off' m hs
    split at hr
    case isFalse => cases hr
    rename_i hsome
    obtain ⟨e, he, rfl⟩ := Option.map_eq_some_iff.1 hr
    obtain ⟨⟨e1, cs1⟩, hy⟩ := Option.isSome_iff_exists.1 hsome
    have hx := hf.ev xo
    rw [hs] at hx
    generalize hval : a.eval xo = val at hx
    cases hx with
    | ref hr hh =>
      obtain ⟨cap, arr, ty, mk, h1, h2, h3, rfl⟩ := hh _ _ hy
      refine fin _ ?_ rfl
      rw [hval]
      simp [Builtin.len_, run_underlying (elemT_run he), goInt]
  · cases hr

/-! ### min, max of whole numbers -/
def minMaxT (mx : Bool) : List T → Option T
  | [] => none
  | .v (.int k x) :: ts => ts.foldlM (fun (acc t : T) => match acc, t with
      | .v (.int k x), .v (.int _ y) => some (.v (.int k (if (if mx then y > x else y < x) then y else x)))
      | _, _ => none) (.v (.int k x))
  | _ => none

theorem minMax_gives {P : Program} {o : Oper} {mx : Bool} {args : Array Operand} {tys : Array TypeId} (ho : o.op = .call { callee := .builtin (if mx then .max else .min), args := args, argTypes := tys }) {a : Act} {E : Env} {w0 : World} {n : Nat} {fr : Nat → T}
    (h : Inv E w0) (hf : FR E n fr a) {r : T} (hr : minMaxT mx (args.toList.map (ev fr)) = some r) : Gives P o a E w0 r E.S := by
  have key : ∀ (l : List Operand) (k : IntKind) (x : Int), (l.map (ev fr)).foldlM (fun (acc t : T) => match acc, t with
      | .v (.int k x), .v (.int _ y) => some (.v (.int k (if (if mx then y > x else y < x) then y else x)))
      | _, _ => none) (.v (.int k x)) = some r → ∃ z, r = .v (.int k z) ∧ ((l.map a.eval).foldlM (if mx then Builtin.max2 else Builtin.min2) (.int k x)).run P E.w = .ok (.int k z) E.w := by
    intro l
    induction l with
    | nil => intro k x hx; simp only [List.map_nil, List.foldlM_nil] at hx; cases hx; exact ⟨x, rfl, rfl⟩
    | cons y l ih =>
      intro k x hx
      rw [List.map_cons, List.foldlM_cons] at hx
      obtain ⟨acc, h1, h2⟩ := Option.bind_eq_some_iff.1 hx
      split at h1
      case h_2 => cases h1
      rename_i k1 x1 k2 y1 e1 e2
      cases e1
      cases h1
      have hyv := (hf.ev y).toV _ _ (.int k2 y1) (by rw [e2]; rfl)
      obtain ⟨z, hz, hrun⟩ := ih _ _ h2
      refine ⟨z, hz, ?_⟩
      rw [List.map_cons, List.foldlM_cons, Sem.run_bind, hyv]
      cases mx with
      | true =>
        simp only [if_true, Builtin.max2, Sem.run_pure, Result.andThen_ok] at hrun ⊢
        exact hrun
      | false =>
        simp only [Bool.false_eq_true, if_false, Builtin.min2, Sem.run_pure, Result.andThen_ok] at hrun ⊢
        exact hrun
  cases hl : args.toList with
  | nil => rw [hl] at hr; simp [minMaxT] at hr
  | cons x l =>
    rw [hl, List.map_cons] at hr
    unfold minMaxT at hr
    split at hr
    · rename_i he; cases he
    · rename_i k x1 ts he
      simp only [List.cons.injEq] at he
      obtain ⟨e1, rfl⟩ := he
      have hxv := (hf.ev x).toV _ _ (.int k x1) (by rw [e1]; rfl)
      obtain ⟨z, rfl, hrun⟩ := key l k x1 hr
      refine Gives.pure h (v := .int k z) ?_ (.v _)
      have e3 : (args.map a.eval).toList = a.eval x :: l.map a.eval := by rw [Array.toList_map, hl]; rfl
      cases mx with
      | true =>
        simp only [if_true] at ho hrun
        simp only [execOp, ho, resolve, invoke, builtin, Sem.run_bind, Sem.run_pure, Result.andThen_ok, Builtin.max_, e3, hxv, hrun]
      | false =>
        simp only [Bool.false_eq_true, if_false] at ho hrun
        simp only [execOp, ho, resolve, invoke, builtin, Sem.run_bind, Sem.run_pure, Result.andThen_ok, Builtin.min_, e3, hxv, hrun]
    · cases hr

end Go.TL
