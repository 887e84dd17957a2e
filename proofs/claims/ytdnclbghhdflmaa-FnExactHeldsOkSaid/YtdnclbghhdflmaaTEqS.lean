/- Equality of structs whose parts are plain. No conditions. -/
import Derived.Test.YtdnclbghhdflmaaTRest
import Derived.Laws.StructEq
import Derived.ChangeKeysEq
namespace Go.TL
open Go.RowKit

theorem str_eq (a b : ByteArray) : (a.toList == b.toList) = decide (a = b) := by
  by_cases h : a = b
  · subst h; simp
  · rw [decide_eq_false h]
    simp only [beq_eq_false_iff_ne, ne_eq, ByteArray.toList_eq]
    intro hh
    exact h (ByteArray.ext (Array.toList_inj.mp hh))

mutual
/-- Two things' cells, compared as the type says. -/
def eqC (P : Program) : Nat → TypeId → List Value → List Value → Option Bool
  | 0, _, _, _ => none
  | m + 1, t, xs, ys => match P.underlying t with
    | some .bool => match xs, ys with
      | [.bool a], [.bool b] => some (a == b)
      | _, _ => none
    | some (.int _) => match xs, ys with
      | [.int k a], [.int k' b] => if k = k' then some (decide (a = b)) else none
      | _, _ => none
    | some .string => match xs, ys with
      | [.string a], [.string b] => some (decide (a = b))
      | _, _ => none
    | some (.struct fs) => if P.stoodInHeld t = false then eqCs P m fs.toList xs ys else none
    | _ => none
termination_by m => (m, 0)
def eqCs (P : Program) (m : Nat) : List Field → List Value → List Value → Option Bool
  | [], _, _ => some true
  | f :: fs, xs, ys => if f.name = "_" then none else match aggT P f.type, szT P f.type with
    | some agg, some n => if f.offset + n ≤ xs.length ∧ f.offset + n ≤ ys.length ∧ (agg = false → n = 1) then
        match eqC P m f.type ((xs.drop f.offset).take n) ((ys.drop f.offset).take n), eqCs P m fs xs ys with
        | some a, some b => some (a && b)
        | _, _ => none
      else none
    | _, _ => none
termination_by fs => (m, fs.length + 1)
end

def valOf (agg : Bool) (xs : List Value) : Value := if agg then .agg xs.toArray else xs.getD 0 undef

mutual
theorem eqC_run {P : Program} : ∀ (m : Nat) (t : TypeId) (agg : Bool) (xs ys : List Value) (r : Bool), eqC P m t xs ys = some r → aggT P t = some agg → ∀ (d : Nat) (w : World), (Op.equalIn (d + m) t (valOf agg xs) (valOf agg ys)).run P w = .ok r w
  | 0, t, agg, xs, ys, r, h, _, d, w => by simp [eqC] at h
  | m + 1, t, agg, xs, ys, r, h, ha, d, w => by
    unfold eqC at h
    split at h
    · rename_i hu
      split at h
      · rename_i a b
        cases h
        have : agg = false := by simp [aggT, hu] at ha; exact ha
        subst this
        simp [valOf, Op.equalIn, run_underlying hu]
      · cases h
    · rename_i q hu
      split at h
      · rename_i k a k' b
        split at h
        · rename_i hk
          cases h
          subst hk
          have : agg = false := by simp [aggT, hu] at ha; exact ha
          subst this
          simp [valOf, Op.equalIn, run_underlying hu]
          rfl
        · cases h
      · cases h
    · rename_i hu
      split at h
      · rename_i a b
        cases h
        have : agg = false := by simp [aggT, hu] at ha; exact ha
        subst this
        have := run_equalIn_string w (d + m) t a b hu
        rw [str_eq] at this
        exact this
      · cases h
    · rename_i fs hu
      split at h
      · rename_i hs
        have : agg = true := by simp [aggT, hu] at ha; exact ha
        subst this
        have hfs : P.fieldsOf t = fs := by simp [Program.fieldsOf, hu]
        rw [← Nat.add_assoc]
        simp only [valOf, if_true]
        rw [run_equalIn_struct w (d + m) t _ _ (by rw [hfs]; exact hu) hs, hfs]
        exact eqCs_run m fs.toList xs ys r h d w
      · cases h
    · cases h
termination_by m => (m, 0)
theorem eqCs_run {P : Program} (m : Nat) : ∀ (fs : List Field) (xs ys : List Value) (r : Bool), eqCs P m fs xs ys = some r → ∀ (d : Nat) (w : World), (Op.eqFields (d + m) xs.toArray ys.toArray fs).run P w = .ok r w
  | [], xs, ys, r, h, d, w => by simp only [eqCs, Option.some.injEq] at h; subst h; simp [Op.eqFields]
  | f :: fs, xs, ys, r, h, d, w => by
    unfold eqCs at h
    split at h
    · cases h
    rename_i hn
    split at h
    case h_2 => cases h
    rename_i agg n hag hsz
    split at h
    case isFalse => cases h
    rename_i hb
    split at h
    case h_2 => cases h
    rename_i q1 q2 h1 h2
    cases h
    have hx : (part f.type xs.toArray f.offset).run P w = .ok (valOf agg ((xs.drop f.offset).take n)) w := by
      rw [run_part hag hsz _ _ (by cases agg <;> simp_all <;> omega)]
      cases agg with
      | true => simp [valOf, List.extract_eq_take_drop]
      | false =>
        have := hb.2.2 rfl
        subst this
        simp [valOf, List.getD_eq_getElem?_getD, List.getElem?_drop]
    have hy : (part f.type ys.toArray f.offset).run P w = .ok (valOf agg ((ys.drop f.offset).take n)) w := by
      rw [run_part hag hsz _ _ (by cases agg <;> simp_all <;> omega)]
      cases agg with
      | true => simp [valOf, List.extract_eq_take_drop]
      | false =>
        have := hb.2.2 rfl
        subst this
        simp [valOf, List.getD_eq_getElem?_getD, List.getElem?_drop]
    have he := eqC_run m f.type agg _ _ q1 h1 hag d w
    have hr := eqCs_run m fs xs ys q2 h2 d w
    simp only [Op.eqFields, hn, ne_eq, not_false_eq_true, if_true, Sem.run_bind, hx, hy, he, Result.andThen_ok]
    cases q1 with
    | true => simpa using hr
    | false => simp
termination_by fs => (m, fs.length + 1)
end

def eqAggT (P : Program) (neg : Bool) (t : TypeId) (x y : T) : Option T :=
  match toV x, toV y with
  | some (.agg a), some (.agg b) =>
    if P.eqGuardType P.depth t = false ∧ aggT P t = some true then (eqC P 20 t a.toList b.toList).map fun r => .v (.bool (if neg then !r else r)) else none
  | _, _ => none

theorem eqAgg_gives {P : Program} {o : Oper} {neg : Bool} {t ty : TypeId} {xo yo : Operand} (ho : o.op = .binOp (if neg then .neq else .eql) t xo yo ty) {a : Act} {E : Env} {w0 : World} {n : Nat} {fr : Nat → T}
    (h : Inv E w0) (hf : FR E n fr a) {r : T} (hr : eqAggT P neg t (ev fr xo) (ev fr yo) = some r) : Gives P o a E w0 r E.S := by
  unfold eqAggT at hr
  split at hr
  case h_2 => cases hr
  rename_i x y hx hy
  have ex := (hf.ev xo).toV _ _ _ hx
  have ey := (hf.ev yo).toV _ _ _ hy
  split at hr
  case isFalse => cases hr
  rename_i hc
  obtain ⟨q, hq, rfl⟩ := Option.map_eq_some_iff.1 hr
  have hq' : (Op.equal t (.agg x) (.agg y)).run P E.w = .ok q E.w := by
    have := eqC_run 20 t true _ _ q hq hc.2 9980 E.w
    simp only [valOf, if_true, Array.toArray_toList] at this
    exact this
  refine Gives.pure h (v := .bool (if neg then !q else q)) ?_ (.v _)
  simp only [execOp, ho]
  rw [ex, ey]
  cases neg with
  | true => simp [eqGuard, hc.1, binOp, hq']
  | false => simp [eqGuard, hc.1, binOp, hq']

/-- An operation on two things: structs by their parts, all else by the model. -/
def binA (P : Program) (op : BinOp) (t : TypeId) (xo yo : Operand) (x y : T) : Option T :=
  match x with
  | .agg xs => match op with
    | .eql => eqAggT P false t (.agg xs) y
    | .neq => eqAggT P true t (.agg xs) y
    | _ => none
  | x => binT P op t xo yo x y

theorem binA_v (P : Program) (op : BinOp) (t : TypeId) (xo yo : Operand) (a : Value) (y : T) : binA P op t xo yo (.v a) y = binT P op t xo yo (.v a) y := of_eq_true (eq_self _)
theorem binA_eql (P : Program) (t : TypeId) (xo yo : Operand) (xs : List T) (y : T) : binA P .eql t xo yo (.agg xs) y = eqAggT P false t (.agg xs) y := of_eq_true (eq_self _)
theorem binA_neq (P : Program) (t : TypeId) (xo yo : Operand) (xs : List T) (y : T) : binA P .neq t xo yo (.agg xs) y = eqAggT P true t (.agg xs) y := of_eq_true (eq_self _)

theorem binA_gives {P : Program} {o : Oper} {op : BinOp} {t ty : TypeId} {xo yo : Operand} (ho : o.op = .binOp op t xo yo ty) {a : Act} {E : Env} {w0 : World} {n : Nat} {fr : Nat → T}
    (h : Inv E w0) (hf : FR E n fr a) {r : T} (hr : binA P op t xo yo (ev fr xo) (ev fr yo) = some r) : Gives P o a E w0 r E.S := by
  unfold binA at hr
  split at hr
  · rename_i xs hx
    rw [← hx] at hr
    split at hr
    · exact eqAgg_gives (neg := false) ho h hf hr
    · exact eqAgg_gives (neg := true) ho h hf hr
    · cases hr
  · exact binT_gives ho h hf hr

end Go.TL
