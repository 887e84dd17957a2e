/- The operations' laws, one a kind, for the walk. No conditions. -/
import Derived.Test.YtkecbkljfpebhaaTB2
import Derived.Attr
namespace Go.TL
set_option linter.unusedSimpArgs false
open Go.RowKit

section
variable (P : Program) (S : Store) (fr : Nat → T) (d : Option Tmp) (ty : TypeId) (pos : String) (aft : Array Edge) (g : Option (Nat × Bool))
@[go_sem ↓] theorem s_move (x : Operand) : stepT P S fr ⟨d, .move x, ty, pos, aft, g⟩ = some (ev fr x, S) := of_eq_true (eq_self _)
@[go_sem ↓] theorem s_assign (x : Operand) : stepT P S fr ⟨d, .assign x, ty, pos, aft, g⟩ = some (ev fr x, S) := of_eq_true (eq_self _)
@[go_sem ↓] theorem s_pick (c x y : Operand) : stepT P S fr ⟨d, .pick c x y, ty, pos, aft, g⟩ = (pickT (ev fr c) (ev fr x) (ev fr y)).map (·, S) := of_eq_true (eq_self _)
@[go_sem ↓] theorem s_alloc (t : TypeId) : stepT P S fr ⟨d, .alloc t, ty, pos, aft, g⟩ = (zeroT P t).map fun cs => (.ptr S.length [] 0, S ++ [⟨0, true, cs⟩]) := of_eq_true (eq_self _)
@[go_sem ↓] theorem s_box (t : TypeId) (x : Operand) : stepT P S fr ⟨d, .box t x, ty, pos, aft, g⟩ = if storable S (compsT (ev fr x)) = true then some (.ptr S.length [] 0, S ++ [⟨0, true, compsT (ev fr x)⟩]) else none := of_eq_true (eq_self _)
@[go_sem ↓] theorem s_build (t : TypeId) (ps : List (Nat × Operand)) : stepT P S fr ⟨d, .build t ps.toArray, ty, pos, aft, g⟩ = (buildT P S t (ps.map fun x => (x.1, ev fr x.2))).map (·, S) := of_eq_true (eq_self _)
@[go_sem ↓] theorem s_buildSlice (t : TypeId) (n : Nat) (ps : List (Nat × Operand)) : stepT P S fr ⟨d, .buildSlice t n ps.toArray, ty, pos, aft, g⟩ = buildSliceT P S t n (ps.map fun x => (x.1, ev fr x.2)) := of_eq_true (eq_self _)
@[go_sem ↓] theorem s_load (t : TypeId) (x : Operand) : stepT P S fr ⟨d, .load t x, ty, pos, aft, g⟩ = (loadT P S t (ev fr x)).map (·, S) := of_eq_true (eq_self _)
@[go_sem ↓] theorem s_store (t : TypeId) (x y : Operand) : stepT P S fr ⟨d, .store t x y, ty, pos, aft, g⟩ = (storeT P S t (ev fr x) (ev fr y)).map (.dead, ·) := of_eq_true (eq_self _)
@[go_sem ↓] theorem s_bin (op : BinOp) (t u : TypeId) (x y : Operand) : stepT P S fr ⟨d, .binOp op t x y u, ty, pos, aft, g⟩ = (binA P op t x y (ev fr x) (ev fr y)).map (·, S) := of_eq_true (eq_self _)
@[go_sem ↓] theorem s_un (op : UnOp) (t : TypeId) (x : Operand) : stepT P S fr ⟨d, .unOp op t x, ty, pos, aft, g⟩ = (unT P op (ev fr x)).map (·, S) := of_eq_true (eq_self _)
@[go_sem ↓] theorem s_conv (s t : TypeId) (x : Operand) : stepT P S fr ⟨d, .convert s t x, ty, pos, aft, g⟩ = convT P S s t (ev fr x) := of_eq_true (eq_self _)
@[go_sem ↓] theorem s_nilCheck (x : Operand) : stepT P S fr ⟨d, .nilCheck x, ty, pos, aft, g⟩ = (nilT S (ev fr x)).map (·, S) := of_eq_true (eq_self _)
@[go_sem] theorem nil_ptr (r : Nat) (p : List Nat) (off : Nat) : nilT S (.ptr r p off) = (S.at false r p).map fun _ => .ptr r p off := rfl
@[go_sem] theorem nil_pz (k : Nat) (cs : List T) (off : Nat) : nilT S (.pz k cs off) = some (.pz k cs off) := rfl
@[go_sem ↓] theorem s_makeFunc (f : FuncId) (caps : List Operand) : stepT P S fr ⟨d, .makeFunc (.func f) #[] caps.toArray, ty, pos, aft, g⟩ = some (.clo f (caps.map (ev fr)), S) := of_eq_true (eq_self _)
@[go_sem ↓] theorem s_makeSlice (t : TypeId) (x y : Operand) : stepT P S fr ⟨d, .makeSlice t x y, ty, pos, aft, g⟩ = makeSliceT P S t (ev fr x) (ev fr y) := of_eq_true (eq_self _)
@[go_sem ↓] theorem s_slice (t : TypeId) (x : Operand) (lo hi : Option Operand) : stepT P S fr ⟨d, .slice t x lo hi none, ty, pos, aft, g⟩ = (sliceT P S t (ev fr x) (lo.map (ev fr)) (hi.map (ev fr))).map (·, S) := of_eq_true (eq_self _)
@[go_sem ↓] theorem s_fieldAddr (t : TypeId) (x : Operand) (f : Nat) : stepT P S fr ⟨d, .fieldAddr t x f, ty, pos, aft, g⟩ = (fieldAddrT P S t (ev fr x) f).map (·, S) := of_eq_true (eq_self _)
@[go_sem ↓] theorem s_field (t : TypeId) (x : Operand) (f : Nat) : stepT P S fr ⟨d, .field t x f, ty, pos, aft, g⟩ = (fieldT P t (ev fr x) f).map (·, S) := of_eq_true (eq_self _)
@[go_sem ↓] theorem s_indexAddr (t : TypeId) (x i : Operand) : stepT P S fr ⟨d, .indexAddr t x i, ty, pos, aft, g⟩ = (indexAddrT P S t (ev fr x) (ev fr i)).map (·, S) := of_eq_true (eq_self _)
@[go_sem ↓] theorem s_index (t : TypeId) (x i : Operand) : stepT P S fr ⟨d, .index t x i, ty, pos, aft, g⟩ = (indexT P t (ev fr x) (ev fr i)).map (·, S) := of_eq_true (eq_self _)
@[go_sem ↓] theorem s_extract (x : Operand) (i : Nat) : stepT P S fr ⟨d, .extract x i, ty, pos, aft, g⟩ = (extractT (ev fr x) i).map (·, S) := of_eq_true (eq_self _)
@[go_sem ↓] theorem s_builtin (b : Builtin) (args : List Operand) (tys : List TypeId) : stepT P S fr ⟨d, .call ⟨.builtin b, args.toArray, tys.toArray⟩, ty, pos, aft, g⟩ = builtinT P S fr b args tys := of_eq_true (eq_self _)
@[go_sem ↓] theorem s_len (x : Operand) (t : TypeId) : builtinT P S fr .len [x] [t] = (lenT P S t (ev fr x)).map (·, S) := of_eq_true (eq_self _)
@[go_sem ↓] theorem s_clear (x : Operand) (t : TypeId) : builtinT P S fr .clear [x] [t] = clearT P S t (ev fr x) := of_eq_true (eq_self _)
@[go_sem ↓] theorem s_append (x y : Operand) (t u : TypeId) : builtinT P S fr .append [x, y] [t, u] = appendX P S t u (ev fr x) (ev fr y) := of_eq_true (eq_self _)
@[go_sem ↓] theorem s_min (args : List Operand) (tys : List TypeId) : builtinT P S fr .min args tys = (minMaxT false (args.map (ev fr))).map (·, S) := by rcases args with _ | ⟨x, _ | ⟨y, l⟩⟩ <;> rcases tys with _ | ⟨t, _ | ⟨u, l2⟩⟩ <;> rfl
@[go_sem ↓] theorem s_max (args : List Operand) (tys : List TypeId) : builtinT P S fr .max args tys = (minMaxT true (args.map (ev fr))).map (·, S) := by rcases args with _ | ⟨x, _ | ⟨y, l⟩⟩ <;> rcases tys with _ | ⟨t, _ | ⟨u, l2⟩⟩ <;> rfl
end

@[go_sem] theorem appX_v (P : Program) (S : Store) (t u : TypeId) (x : Value) (y : T) : appendX P S t u (.v x) y = appendT P S t u (.v x) y := rfl
@[go_sem] theorem appX_r (P : Program) (S : Store) (t u : TypeId) (r off n : Nat) (y : T) : appendX P S t u (.ref r [] off n) y = appendT P S t u (.ref r [] off n) y := rfl
@[go_sem ↓] theorem upd_at (fr : Nat → T) (d i : Nat) (t : T) : upd fr d t i = if i = d then t else fr i := of_eq_true (eq_self _)
@[go_sem ↓] theorem initF_at (l : List T) (i : Nat) : initF l i = (l[i]?).getD (.v undef) := of_eq_true (eq_self _)
attribute [go_sem ↓] ev_tmp ev_const
attribute [go_sem] binA_v binA_eql binA_neq b_lss b_leq b_gtr b_geq b_eql b_neq b_add b_sub b_mul b_quo b_rem b_and b_or b_xor b_shr b_shl
@[go_sem ↓] theorem ev_func (fr : Nat → T) (f : FuncId) : ev fr (.func f) = .v (.func (.func f) #[] #[]) := of_eq_true (eq_self _)
@[go_sem] theorem ofV_int (k : IntKind) (x : Int) : ofV (.int k x) = .v (.int k x) := of_eq_true (eq_self _)

attribute [go_sem] List.take_zero List.flatMap_nil Int.cast_ofNat_Int Int.natCast_zero
attribute [go_sem] IntKind.wrap_u8 IntWalk.i64_left
attribute [go_sem] buildSliceT partsOk fillT setR storable fieldAddrT fieldT extractT loadT storeT boundsT intT loadN loadZ resTs resT1 packT
section
variable (S : Store) (x : Value) (o : Bool) (k n e r off : Nat) (cs : List T) (p : List Nat)
@[go_sem] theorem comps_v : compsT (.v x) = [.v x] := rfl
@[go_sem] theorem comps_sl : compsT (.sl o k n e cs) = [.sl o k n e cs] := rfl
@[go_sem] theorem comps_ref : compsT (.ref r p off n) = [.ref r p off n] := rfl
@[go_sem] theorem comps_ptr : compsT (.ptr r p off) = [.ptr r p off] := rfl
@[go_sem] theorem comps_pz : compsT (.pz k cs off) = [.pz k cs off] := rfl
@[go_sem] theorem comps_agg : compsT (.agg cs) = cs := rfl
@[go_sem] theorem comps_tup : compsT (.tup cs) = [.tup cs] := rfl
@[go_sem] theorem comps_clo (f : FuncId) : compsT (.clo f cs) = [.clo f cs] := rfl
@[go_sem] theorem comps_dead : compsT .dead = [.dead] := rfl
@[go_sem] theorem cellOk_v : cellOk (.v x) = x.oneCell' := rfl
@[go_sem] theorem cellOk_sl : cellOk (.sl false k n e cs) = true := rfl
@[go_sem] theorem cellOk_ref : cellOk (.ref r p off n) = true := rfl
@[go_sem] theorem oneT_v : oneT (.v x) = x.oneCell' := rfl
@[go_sem] theorem oneT_sl : oneT (.sl o k n e cs) = true := rfl
@[go_sem] theorem oneT_ref : oneT (.ref r p off n) = true := rfl
@[go_sem] theorem liveT_v : liveT S (.v x) = true := rfl
@[go_sem] theorem liveT_sl : liveT S (.sl o k n e cs) = true := rfl
@[go_sem] theorem liveT_ref : liveT S (.ref r p off n) = (S.at false r p).isSome := rfl
@[go_sem] theorem lenT_str (P : Program) (t : TypeId) (s : ByteArray) : lenT P S t (.v (.string s)) = (match P.underlying t with
    | some .string => some (.v (.int .i64 s.size))
    | _ => none) := rfl
@[go_sem] theorem lenT_nil (P : Program) (t : TypeId) : lenT P S t (.v (.slice none 0 0)) = (elemT P t).map fun _ => .v (.int .i64 0) := rfl
@[go_sem] theorem lenT_sl (P : Program) (t : TypeId) : lenT P S t (.sl false k n e cs) = (elemT P t).map fun _ => .v (.int .i64 n) := rfl
@[go_sem] theorem lenT_ref (P : Program) (t : TypeId) : lenT P S t (.ref r p off n) = if (S.at false r p).isSome then (elemT P t).map fun _ => .v (.int .i64 n) else none := rfl
@[go_sem] theorem loadCell_v (j : Nat) : loadCell r p j (.v x) = some (.v x) := rfl
@[go_sem] theorem loadCell_sl (j : Nat) : loadCell r p j (.sl false k n e cs) = some (.sl false k n e cs) := rfl
@[go_sem] theorem loadCell_slt (j : Nat) : loadCell r p j (.sl true k n e cs) = if k = 0 then some (.ref r (p ++ [j]) 0 n) else none := rfl
@[go_sem] theorem loadCell_ref (j r' off n : Nat) (p' : List Nat) : loadCell r p j (.ref r' p' off n) = some (.ref r' p' off n) := rfl
end
attribute [go_sem] List.map_cons List.map_nil List.all_cons List.all_nil List.length_cons List.length_nil Option.map_some Option.map_none List.getElem?_cons_zero List.getElem?_cons_succ List.getElem?_nil Option.getD_some Option.getD_none Option.bind_some Option.bind_none
attribute [go_sem] if_true if_false ite_true ite_false List.nil_append List.cons_append Option.isSome_some Bool.and_true Bool.true_and Bool.and_false Bool.false_and
@[go_sem] theorem repT_0 (zs : List T) : repT zs 0 = [] := of_eq_true (eq_self _)
@[go_sem] theorem repT_s (zs : List T) (n : Nat) : repT zs (n + 1) = zs ++ repT zs n := by simp [repT, List.replicate_succ]
@[go_sem] theorem repT_1 (zs : List T) : repT zs 1 = zs := by simp [repT]
@[go_sem] theorem repT_2 (zs : List T) : repT zs 2 = zs ++ zs := by simp [repT, List.replicate_succ]
@[go_sem] theorem repT_3 (zs : List T) : repT zs 3 = zs ++ (zs ++ zs) := by simp [repT, List.replicate_succ]

@[go_sem] theorem conv_int (P : Program) (S : Store) (src dst : TypeId) (k : IntKind) (n : Int) : convT P S src dst (.v (.int k n)) = match P.underlying src, P.underlying dst with
    | some _, some (.int k) => some (.v (.int k (k.wrap n)), S)
    | _, _ => none := of_eq_true (eq_self _)

/-- A value that is there only where p holds. -/
def gT (p : Prop) [Decidable p] (t : T) : T := if p then t else .v undef
theorem gT_1 {p : Prop} [Decidable p] (h : p) (t : T) : gT p t = t := if_pos h
theorem gT_2 {p : Prop} [Decidable p] (h : p) (q : Prop) [Decidable q] (t : T) : gT (p ∧ q) t = gT q t := by
  unfold gT; by_cases hq : q <;> simp [h, hq]
def wantG (x : T) (w : Bool) : Option Bool :=
  match x with
  | .v (.bool b) => some (b == w)
  | .v (.tuple _) => some false
  | _ => none
@[go_sem] theorem wantG_t (p : Prop) [Decidable p] : wantG (.v (.bool (decide p))) true = some (decide p) := by simp [wantG]
@[go_sem] theorem wantG_f (p : Prop) [Decidable p] : wantG (.v (.bool (decide p))) false = some (decide (¬ p)) := by simp only [wantG]; by_cases h : p <;> simp [h]
@[go_sem] theorem wantG_gt (q p : Prop) [Decidable p] [Decidable q] : wantG (gT q (.v (.bool (decide p)))) true = some (decide (q ∧ p)) := by
  by_cases hq : q <;> by_cases h : p <;> simp [wantG, gT, hq, h, undef]
@[go_sem] theorem wantG_gf (q p : Prop) [Decidable p] [Decidable q] : wantG (gT q (.v (.bool (decide p)))) false = some (decide (q ∧ ¬ p)) := by
  by_cases hq : q <;> by_cases h : p <;> simp [wantG, gT, hq, h, undef]

theorem wantG_eq {ops : Array Oper} {fr : Nat → T} {o : Oper} {j dj : Nat} {w b : Bool} (hg : o.guard = some (j, w)) (hdj : (ops[j]?).bind (·.dst) = some dj) (hb : wantG (fr dj) w = some b) : wantedT ops fr o = some b := by
  unfold wantedT
  simp only [hg, hdj]
  exact hb

section
variable {P : Program} {n : Nat} {S : Store} {fr : Nat → T} {ops : Array Oper} {rest : List Oper} {K : (Nat → T) → Store → Prop}
theorem opT_gd {q : Prop} [Decidable q] {o : Oper} {t : T} (hw : wantedT ops fr o = some (decide q)) (hd : okDst n o.dst = true) (hc : calleeT fr o = none) (hs : q → stepT P S fr o = some (t, S)) : opT P ops n fr S o (gT q t) S := by
  by_cases hq : q
  · rw [gT_1 hq]
    exact opT_do (hw.trans (by simp [hq])) hd hc (hs hq)
  · rw [show gT q t = .v undef from if_neg hq]
    exact opT_not (hw.trans (by simp [hq])) hd
theorem opT_gc {q : Prop} [Decidable q] {o : Oper} {t : T} {g : FuncId} {args : List T} (hw : wantedT ops fr o = some (decide q)) (hd : okDst n o.dst = true) (hc : q → calleeT fr o = some (g, args)) (hs : q → CallsT P S g args t S) : opT P ops n fr S o (gT q t) S := by
  by_cases hq : q
  · rw [gT_1 hq]
    exact opT_call (hw.trans (by simp [hq])) hd (hc hq) (hs hq)
  · rw [show gT q t = .v undef from if_neg hq]
    exact opT_not (hw.trans (by simp [hq])) hd
theorem opT_gdw {q : Prop} [Decidable q] {o : Oper} {j dj : Nat} {w : Bool} {t : T} (hg : o.guard = some (j, w)) (hdj : (ops[j]?).bind (·.dst) = some dj) (hb : wantG (fr dj) w = some (decide q)) (hd : okDst n o.dst = true) (hc : calleeT fr o = none) (hs : q → stepT P S fr o = some (t, S)) : opT P ops n fr S o (gT q t) S :=
  opT_gd (wantG_eq hg hdj hb) hd hc hs
theorem opT_do0 {op : Op} {ty : TypeId} {pos : String} {aft : Array Edge} {gd : Option (Nat × Bool)} {t : T} {S' : Store} (hw : wantedT ops fr ⟨none, op, ty, pos, aft, gd⟩ = some true) (hc : calleeT fr ⟨none, op, ty, pos, aft, gd⟩ = none) (hs : stepT P S fr ⟨none, op, ty, pos, aft, gd⟩ = some (t, S')) : opT P ops n fr S ⟨none, op, ty, pos, aft, gd⟩ t S' := opT_do hw rfl hc hs
/-- An operation that left the roots, in a region whose order is drawn. -/
theorem dr_still {i : Nat} {past : List (Nat × Store)} {pend : List (Nat × (Nat → T) × Oper × T)} {o : Oper} {t : T} (h : pastOk P ops n i fr o t past := by ((repeat (first | exact True.intro | refine And.intro (Or.inl (by dsimp only; decide +kernel)) ?_ | refine And.intro (Or.inr (opT_do (by rfl) (by rfl) (by rfl) (by simp (disch := omega) only [go_sem, ↓reduceIte, Nat.reduceEqDiff, Nat.reduceMul, Nat.reduceAdd, Nat.reduceSub, Nat.reduceLT, Nat.reduceGT, Nat.reduceLeDiff, Nat.reduceBEq, Int.reduceLT, Int.reduceLE, Int.reduceNe, Int.reduceEq, Int.reduceToNat, Int.reduceAdd, Int.reduceSub, Int.reduceMul, Int.reduceNeg, Nat.reducePow, Int.reducePow, Nat.reduceSubDiff, decide_true, decide_false, reduceCtorEq, or_self, or_false, false_or, or_true, true_or, if_false, gt_iff_lt, ge_iff_le, ne_eq, not_true_eq_false, not_false_eq_true, and_self, beq_self_eq_true, Bool.false_eq_true] <;> with_reducible rfl))) ?_ | refine And.intro (Or.inr (opT_do0 (by rfl) (by rfl) (by simp (disch := omega) only [go_sem, ↓reduceIte, Nat.reduceEqDiff, Nat.reduceMul, Nat.reduceAdd, Nat.reduceSub, Nat.reduceLT, Nat.reduceGT, Nat.reduceLeDiff, Nat.reduceBEq, Int.reduceLT, Int.reduceLE, Int.reduceNe, Int.reduceEq, Int.reduceToNat, Int.reduceAdd, Int.reduceSub, Int.reduceMul, Int.reduceNeg, Nat.reducePow, Int.reducePow, Nat.reduceSubDiff, decide_true, decide_false, reduceCtorEq, or_self, or_false, false_or, or_true, true_or, if_false, gt_iff_lt, ge_iff_le, ne_eq, not_true_eq_false, not_false_eq_true, and_self, beq_self_eq_true, Bool.false_eq_true] <;> with_reducible rfl))) ?_ | refine And.intro (Or.inr (opT_gdw (by rfl) (by rfl) (by simp only [go_sem, ↓reduceIte, Nat.reduceEqDiff, Nat.reduceMul, Nat.reduceAdd, Nat.reduceSub, Nat.reduceLT, Nat.reduceGT, Nat.reduceLeDiff, Nat.reduceBEq, Int.reduceLT, Int.reduceLE, Int.reduceNe, Int.reduceEq, Int.reduceToNat, Int.reduceAdd, Int.reduceSub, Int.reduceMul, Int.reduceNeg, Nat.reducePow, Int.reducePow, Nat.reduceSubDiff, decide_true, decide_false, reduceCtorEq, or_self, or_false, false_or, or_true, true_or, if_false, gt_iff_lt, ge_iff_le, ne_eq, not_true_eq_false, not_false_eq_true, and_self, beq_self_eq_true, Bool.false_eq_true] <;> with_reducible rfl) (by rfl) (by rfl) (fun hg => by simp (disch := omega) only [gT_1 hg, gT_2 hg, go_sem, ↓reduceIte, Nat.reduceEqDiff, Nat.reduceMul, Nat.reduceAdd, Nat.reduceSub, Nat.reduceLT, Nat.reduceGT, Nat.reduceLeDiff, Nat.reduceBEq, Int.reduceLT, Int.reduceLE, Int.reduceNe, Int.reduceEq, Int.reduceToNat, Int.reduceAdd, Int.reduceSub, Int.reduceMul, Int.reduceNeg, Nat.reducePow, Int.reducePow, Nat.reduceSubDiff, decide_true, decide_false, reduceCtorEq, or_self, or_false, false_or, or_true, true_or, if_false, gt_iff_lt, ge_iff_le, ne_eq, not_true_eq_false, not_false_eq_true, and_self, beq_self_eq_true, Bool.false_eq_true] <;> with_reducible rfl))) ?_)) <;> fail)) : Dr.step P ops n (.any i past pend) fr S o t S (.any (i + 1) past ((i, fr, o, t) :: pend)) := .still h
/-- One that changed them. -/
theorem dr_chain {i : Nat} {past : List (Nat × Store)} {pend : List (Nat × (Nat → T) × Oper × T)} {o : Oper} {t : T} {S' : Store} (h : behindOk ops i past := by (repeat (first | exact True.intro | refine And.intro (by dsimp only; decide +kernel) ?_)) <;> fail)
    (k : pendOk P ops n i S' pend := by ((repeat (first | exact True.intro | refine And.intro (Or.inl (by dsimp only; decide +kernel)) ?_ | refine And.intro (Or.inr (opT_do (by rfl) (by rfl) (by rfl) (by simp (disch := omega) only [go_sem, ↓reduceIte, Nat.reduceEqDiff, Nat.reduceMul, Nat.reduceAdd, Nat.reduceSub, Nat.reduceLT, Nat.reduceGT, Nat.reduceLeDiff, Nat.reduceBEq, Int.reduceLT, Int.reduceLE, Int.reduceNe, Int.reduceEq, Int.reduceToNat, Int.reduceAdd, Int.reduceSub, Int.reduceMul, Int.reduceNeg, Nat.reducePow, Int.reducePow, Nat.reduceSubDiff, decide_true, decide_false, reduceCtorEq, or_self, or_false, false_or, or_true, true_or, if_false, gt_iff_lt, ge_iff_le, ne_eq, not_true_eq_false, not_false_eq_true, and_self, beq_self_eq_true, Bool.false_eq_true] <;> with_reducible rfl))) ?_ | refine And.intro (Or.inr (opT_do0 (by rfl) (by rfl) (by simp (disch := omega) only [go_sem, ↓reduceIte, Nat.reduceEqDiff, Nat.reduceMul, Nat.reduceAdd, Nat.reduceSub, Nat.reduceLT, Nat.reduceGT, Nat.reduceLeDiff, Nat.reduceBEq, Int.reduceLT, Int.reduceLE, Int.reduceNe, Int.reduceEq, Int.reduceToNat, Int.reduceAdd, Int.reduceSub, Int.reduceMul, Int.reduceNeg, Nat.reducePow, Int.reducePow, Nat.reduceSubDiff, decide_true, decide_false, reduceCtorEq, or_self, or_false, false_or, or_true, true_or, if_false, gt_iff_lt, ge_iff_le, ne_eq, not_true_eq_false, not_false_eq_true, and_self, beq_self_eq_true, Bool.false_eq_true] <;> with_reducible rfl))) ?_ | refine And.intro (Or.inr (opT_gdw (by rfl) (by rfl) (by simp only [go_sem, ↓reduceIte, Nat.reduceEqDiff, Nat.reduceMul, Nat.reduceAdd, Nat.reduceSub, Nat.reduceLT, Nat.reduceGT, Nat.reduceLeDiff, Nat.reduceBEq, Int.reduceLT, Int.reduceLE, Int.reduceNe, Int.reduceEq, Int.reduceToNat, Int.reduceAdd, Int.reduceSub, Int.reduceMul, Int.reduceNeg, Nat.reducePow, Int.reducePow, Nat.reduceSubDiff, decide_true, decide_false, reduceCtorEq, or_self, or_false, false_or, or_true, true_or, if_false, gt_iff_lt, ge_iff_le, ne_eq, not_true_eq_false, not_false_eq_true, and_self, beq_self_eq_true, Bool.false_eq_true] <;> with_reducible rfl) (by rfl) (by rfl) (fun hg => by simp (disch := omega) only [gT_1 hg, gT_2 hg, go_sem, ↓reduceIte, Nat.reduceEqDiff, Nat.reduceMul, Nat.reduceAdd, Nat.reduceSub, Nat.reduceLT, Nat.reduceGT, Nat.reduceLeDiff, Nat.reduceBEq, Int.reduceLT, Int.reduceLE, Int.reduceNe, Int.reduceEq, Int.reduceToNat, Int.reduceAdd, Int.reduceSub, Int.reduceMul, Int.reduceNeg, Nat.reducePow, Int.reducePow, Nat.reduceSubDiff, decide_true, decide_false, reduceCtorEq, or_self, or_false, false_or, or_true, true_or, if_false, gt_iff_lt, ge_iff_le, ne_eq, not_true_eq_false, not_false_eq_true, and_self, beq_self_eq_true, Bool.false_eq_true] <;> with_reducible rfl))) ?_)) <;> fail)) : Dr.step P ops n (.any i past pend) fr S o t S' (.any (i + 1) ((i, S) :: past) pend) := .chain h k

/-- What an operation comes to, found by reckoning. -/
theorem r_do {pu pu' : Dr} {d : Nat} {op : Op} {ty : TypeId} {pos : String} {aft : Array Edge} {gd : Option (Nat × Bool)} {t : T} {S' : Store} (h : wpOpsT P ops n pu' rest K (upd fr d t) S')
    (hw : wantedT ops fr ⟨some d, op, ty, pos, aft, gd⟩ = some true := by rfl) (hd : Nat.blt d n = true := by rfl) (hc : calleeT fr ⟨some d, op, ty, pos, aft, gd⟩ = none := by rfl)
    (hs : stepT P S fr ⟨some d, op, ty, pos, aft, gd⟩ = some (t, S') := by simp (disch := omega) only [go_sem, ↓reduceIte, Nat.reduceEqDiff, Nat.reduceMul, Nat.reduceAdd, Nat.reduceSub, Nat.reduceLT, Nat.reduceGT, Nat.reduceLeDiff, Nat.reduceBEq, Int.reduceLT, Int.reduceLE, Int.reduceNe, Int.reduceEq, Int.reduceToNat, Int.reduceAdd, Int.reduceSub, Int.reduceMul, Int.reduceNeg, Nat.reducePow, Int.reducePow, Nat.reduceSubDiff, decide_true, decide_false, reduceCtorEq, or_self, or_false, false_or, or_true, true_or, if_false, gt_iff_lt, ge_iff_le, ne_eq, not_true_eq_false, not_false_eq_true, and_self, beq_self_eq_true, Bool.false_eq_true]; with_reducible rfl) (hp : Dr.step P ops n pu fr S ⟨some d, op, ty, pos, aft, gd⟩ t S' pu' := by first | exact Dr.step.txt | exact Dr.step.free rfl | exact dr_still | exact dr_chain) :
    wpOpsT P ops n pu (⟨some d, op, ty, pos, aft, gd⟩ :: rest) K fr S := r_op (opT_do hw (by simpa [okDst, Nat.blt_eq] using hd) hc hs) hp h

theorem r_do0 {pu pu' : Dr} {op : Op} {ty : TypeId} {pos : String} {aft : Array Edge} {gd : Option (Nat × Bool)} {t : T} {S' : Store} (h : wpOpsT P ops n pu' rest K fr S')
    (hw : wantedT ops fr ⟨none, op, ty, pos, aft, gd⟩ = some true := by rfl) (hc : calleeT fr ⟨none, op, ty, pos, aft, gd⟩ = none := by rfl)
    (hs : stepT P S fr ⟨none, op, ty, pos, aft, gd⟩ = some (t, S') := by simp (disch := omega) only [go_sem, ↓reduceIte, Nat.reduceEqDiff, Nat.reduceMul, Nat.reduceAdd, Nat.reduceSub, Nat.reduceLT, Nat.reduceGT, Nat.reduceLeDiff, Nat.reduceBEq, Int.reduceLT, Int.reduceLE, Int.reduceNe, Int.reduceEq, Int.reduceToNat, Int.reduceAdd, Int.reduceSub, Int.reduceMul, Int.reduceNeg, Nat.reducePow, Int.reducePow, Nat.reduceSubDiff, decide_true, decide_false, reduceCtorEq, or_self, or_false, false_or, or_true, true_or, if_false, gt_iff_lt, ge_iff_le, ne_eq, not_true_eq_false, not_false_eq_true, and_self, beq_self_eq_true, Bool.false_eq_true]; with_reducible rfl) (hp : Dr.step P ops n pu fr S ⟨none, op, ty, pos, aft, gd⟩ t S' pu' := by first | exact Dr.step.txt | exact Dr.step.free rfl | exact dr_still | exact dr_chain) :
    wpOpsT P ops n pu (⟨none, op, ty, pos, aft, gd⟩ :: rest) K fr S := r_op (opT_do hw rfl hc hs) hp h

/-- An operation, its answer given. -/
theorem r_by {pu pu' : Dr} {d : Nat} {op : Op} {ty : TypeId} {pos : String} {aft : Array Edge} {gd : Option (Nat × Bool)} {t : T} {S' : Store} (hs : stepT P S fr ⟨some d, op, ty, pos, aft, gd⟩ = some (t, S')) (h : wpOpsT P ops n pu' rest K (upd fr d t) S')
    (hw : wantedT ops fr ⟨some d, op, ty, pos, aft, gd⟩ = some true := by rfl) (hd : Nat.blt d n = true := by rfl) (hc : calleeT fr ⟨some d, op, ty, pos, aft, gd⟩ = none := by rfl)
    (hp : Dr.step P ops n pu fr S ⟨some d, op, ty, pos, aft, gd⟩ t S' pu' := by first | exact Dr.step.txt | exact Dr.step.free rfl | exact dr_still | exact dr_chain) :
    wpOpsT P ops n pu (⟨some d, op, ty, pos, aft, gd⟩ :: rest) K fr S := r_op (opT_do hw (by simpa [okDst, Nat.blt_eq] using hd) hc hs) hp h

/-- A guarded operation that is not done. -/
theorem r_not {pu pu' : Dr} {d : Nat} {op : Op} {ty : TypeId} {pos : String} {aft : Array Edge} {g : Nat × Bool} (h : wpOpsT P ops n pu' rest K (upd fr d (.v undef)) S)
    (hw : wantedT ops fr ⟨some d, op, ty, pos, aft, some g⟩ = some false := by rfl) (hd : Nat.blt d n = true := by rfl) (hp : Dr.step P ops n pu fr S ⟨some d, op, ty, pos, aft, some g⟩ (.v undef) S pu' := by first | exact Dr.step.txt | exact Dr.step.free rfl | exact Dr.step.skip rfl) :
    wpOpsT P ops n pu (⟨some d, op, ty, pos, aft, some g⟩ :: rest) K fr S := r_op (opT_not hw (by simpa [okDst, Nat.blt_eq] using hd)) hp h

/-- A guarded operation that is done where its guard holds. -/
theorem r_gd {pu pu' : Dr} {d j dj : Nat} {w : Bool} {q : Prop} [Decidable q] {op : Op} {ty : TypeId} {pos : String} {aft : Array Edge} {t : T} (h : wpOpsT P ops n pu' rest K (upd fr d (gT q t)) S)
    (hdj : (ops[j]?).bind (·.dst) = some dj := by rfl) (hb : wantG (fr dj) w = some (decide q) := by simp only [go_sem, ↓reduceIte, Nat.reduceEqDiff, Nat.reduceMul, Nat.reduceAdd, Nat.reduceSub, Nat.reduceLT, Nat.reduceGT, Nat.reduceLeDiff, Nat.reduceBEq, Int.reduceLT, Int.reduceLE, Int.reduceNe, Int.reduceEq, Int.reduceToNat, Int.reduceAdd, Int.reduceSub, Int.reduceMul, Int.reduceNeg, Nat.reducePow, Int.reducePow, Nat.reduceSubDiff, decide_true, decide_false, reduceCtorEq, or_self, or_false, false_or, or_true, true_or, if_false, gt_iff_lt, ge_iff_le, ne_eq, not_true_eq_false, not_false_eq_true, and_self, beq_self_eq_true, Bool.false_eq_true]; with_reducible rfl) (hd : Nat.blt d n = true := by rfl) (hc : calleeT fr ⟨some d, op, ty, pos, aft, some (j, w)⟩ = none := by rfl)
    (hs : q → stepT P S fr ⟨some d, op, ty, pos, aft, some (j, w)⟩ = some (t, S) := by
      intro hg
      first
      | (simp (disch := omega) only [gT_1 hg, gT_2 hg, go_sem, ↓reduceIte, Nat.reduceEqDiff, Nat.reduceMul, Nat.reduceAdd, Nat.reduceSub, Nat.reduceLT, Nat.reduceGT, Nat.reduceLeDiff, Nat.reduceBEq, Int.reduceLT, Int.reduceLE, Int.reduceNe, Int.reduceEq, Int.reduceToNat, Int.reduceAdd, Int.reduceSub, Int.reduceMul, Int.reduceNeg, Nat.reducePow, Int.reducePow, Nat.reduceSubDiff, decide_true, decide_false, reduceCtorEq, or_self, or_false, false_or, or_true, true_or, if_false, gt_iff_lt, ge_iff_le, ne_eq, not_true_eq_false, not_false_eq_true, and_self, beq_self_eq_true, Bool.false_eq_true]; with_reducible rfl)
      | (simp (disch := omega) only [gT_1 hg, gT_2 hg, gT_1 hg.1, gT_2 hg.1, gT_1 hg.2, go_sem, ↓reduceIte, Nat.reduceEqDiff, Nat.reduceMul, Nat.reduceAdd, Nat.reduceSub, Nat.reduceLT, Nat.reduceGT, Nat.reduceLeDiff, Nat.reduceBEq, Int.reduceLT, Int.reduceLE, Int.reduceNe, Int.reduceEq, Int.reduceToNat, Int.reduceAdd, Int.reduceSub, Int.reduceMul, Int.reduceNeg, Nat.reducePow, Int.reducePow, Nat.reduceSubDiff, decide_true, decide_false, reduceCtorEq, or_self, or_false, false_or, or_true, true_or, if_false, gt_iff_lt, ge_iff_le, ne_eq, not_true_eq_false, not_false_eq_true, and_self, beq_self_eq_true, Bool.false_eq_true]; with_reducible rfl)
      | (simp (disch := omega) only [gT_1 hg, gT_2 hg, gT_1 hg.1, gT_2 hg.1, gT_1 hg.2, gT_1 hg.1.1, gT_2 hg.1.1, gT_1 hg.1.2, go_sem, ↓reduceIte, Nat.reduceEqDiff, Nat.reduceMul, Nat.reduceAdd, Nat.reduceSub, Nat.reduceLT, Nat.reduceGT, Nat.reduceLeDiff, Nat.reduceBEq, Int.reduceLT, Int.reduceLE, Int.reduceNe, Int.reduceEq, Int.reduceToNat, Int.reduceAdd, Int.reduceSub, Int.reduceMul, Int.reduceNeg, Nat.reducePow, Int.reducePow, Nat.reduceSubDiff, decide_true, decide_false, reduceCtorEq, or_self, or_false, false_or, or_true, true_or, if_false, gt_iff_lt, ge_iff_le, ne_eq, not_true_eq_false, not_false_eq_true, and_self, beq_self_eq_true, Bool.false_eq_true]; with_reducible rfl))
    (hp : Dr.step P ops n pu fr S ⟨some d, op, ty, pos, aft, some (j, w)⟩ (gT q t) S pu' := by first | exact Dr.step.txt | exact Dr.step.free rfl | exact dr_still) :
    wpOpsT P ops n pu (⟨some d, op, ty, pos, aft, some (j, w)⟩ :: rest) K fr S := r_op (opT_gd (wantG_eq rfl hdj hb) (by simpa [okDst, Nat.blt_eq] using hd) hc hs) hp h

/-- A guard is met: both ways. -/
theorem r_guard {pu : Dr} {o : Oper} {j : Nat} {w : Bool} {dj : Nat} {p : Prop} [Decidable p] (h1 : p → wpOpsT P ops n pu (o :: rest) K (upd fr dj (.v (.bool true))) S) (h2 : ¬ p → wpOpsT P ops n pu (o :: rest) K (upd fr dj (.v (.bool false))) S)
    (_ho : o.guard = some (j, w) := by rfl) (_hd : (ops[j]?).bind (·.dst) = some dj := by rfl)
    (hb : fr dj = .v (.bool (decide p)) := by (first | (simp only [go_sem, ↓reduceIte, Nat.reduceEqDiff, Nat.reduceMul, Nat.reduceAdd, Nat.reduceSub, Nat.reduceLT, Nat.reduceGT, Nat.reduceLeDiff, Nat.reduceBEq, Int.reduceLT, Int.reduceLE, Int.reduceNe, Int.reduceEq, Int.reduceToNat, Int.reduceAdd, Int.reduceSub, Int.reduceMul, Int.reduceNeg, Nat.reducePow, Int.reducePow, Nat.reduceSubDiff, decide_true, decide_false, reduceCtorEq, or_self, or_false, false_or, or_true, true_or, if_false, gt_iff_lt, ge_iff_le, ne_eq, not_true_eq_false, not_false_eq_true, and_self, beq_self_eq_true, Bool.false_eq_true] <;> with_reducible rfl) | with_reducible rfl)) : wpOpsT P ops n pu (o :: rest) K fr S := by
  have hs : ∀ t, fr dj = t → upd fr dj t = fr := fun t ht => by
    funext i; unfold upd; split
    · rename_i h; rw [h, ht]
    · rfl
  by_cases hp : p
  · have := h1 hp
    rw [hs _ (by rw [hb]; simp [hp])] at this
    exact this
  · have := h2 hp
    rw [hs _ (by rw [hb]; simp [hp])] at this
    exact this
end

end Go.TL
