/- The operations' laws, one a kind, for the walk. No conditions. -/
import Derived.Test.YtpkofjoifihhgaaTEval
import Derived.Attr
namespace Go.TL
open Go.RowKit

section
variable (P : Program) (S : Store) (fr : Nat → T) (d : Option Tmp) (ty : TypeId) (pos : String) (aft : Array Edge) (g : Option (Nat × Bool))
@[go_sem] theorem s_move (x : Operand) : stepT P S fr ⟨d, .move x, ty, pos, aft, g⟩ = some (ev fr x, S) := of_eq_true (eq_self _)
@[go_sem] theorem s_assign (x : Operand) : stepT P S fr ⟨d, .assign x, ty, pos, aft, g⟩ = some (ev fr x, S) := of_eq_true (eq_self _)
@[go_sem] theorem s_pick (c x y : Operand) : stepT P S fr ⟨d, .pick c x y, ty, pos, aft, g⟩ = (pickT (ev fr c) (ev fr x) (ev fr y)).map (·, S) := of_eq_true (eq_self _)
@[go_sem] theorem s_alloc (t : TypeId) : stepT P S fr ⟨d, .alloc t, ty, pos, aft, g⟩ = (zeroT P t).map fun cs => (.ptr S.length [] 0, S ++ [⟨0, true, cs⟩]) := of_eq_true (eq_self _)
@[go_sem] theorem s_box (t : TypeId) (x : Operand) : stepT P S fr ⟨d, .box t x, ty, pos, aft, g⟩ = if storable S (compsT (ev fr x)) = true then some (.ptr S.length [] 0, S ++ [⟨0, true, compsT (ev fr x)⟩]) else none := of_eq_true (eq_self _)
@[go_sem] theorem s_build (t : TypeId) (ps : List (Nat × Operand)) : stepT P S fr ⟨d, .build t ps.toArray, ty, pos, aft, g⟩ = (buildT P S t (ps.map fun x => (x.1, ev fr x.2))).map (·, S) := of_eq_true (eq_self _)
@[go_sem] theorem s_buildSlice (t : TypeId) (n : Nat) (ps : List (Nat × Operand)) : stepT P S fr ⟨d, .buildSlice t n ps.toArray, ty, pos, aft, g⟩ = buildSliceT P S t n (ps.map fun x => (x.1, ev fr x.2)) := of_eq_true (eq_self _)
@[go_sem] theorem s_load (t : TypeId) (x : Operand) : stepT P S fr ⟨d, .load t x, ty, pos, aft, g⟩ = (loadT P S t (ev fr x)).map (·, S) := of_eq_true (eq_self _)
@[go_sem] theorem s_store (t : TypeId) (x y : Operand) : stepT P S fr ⟨d, .store t x y, ty, pos, aft, g⟩ = (storeT P S t (ev fr x) (ev fr y)).map (.dead, ·) := of_eq_true (eq_self _)
@[go_sem] theorem s_bin (op : BinOp) (t u : TypeId) (x y : Operand) : stepT P S fr ⟨d, .binOp op t x y u, ty, pos, aft, g⟩ = (binT P op t x y (ev fr x) (ev fr y)).map (·, S) := of_eq_true (eq_self _)
@[go_sem] theorem s_un (op : UnOp) (t : TypeId) (x : Operand) : stepT P S fr ⟨d, .unOp op t x, ty, pos, aft, g⟩ = (unT P op (ev fr x)).map (·, S) := of_eq_true (eq_self _)
@[go_sem] theorem s_conv (s t : TypeId) (x : Operand) : stepT P S fr ⟨d, .convert s t x, ty, pos, aft, g⟩ = convT P S s t (ev fr x) := of_eq_true (eq_self _)
@[go_sem] theorem s_makeFunc (f : FuncId) (caps : List Operand) : stepT P S fr ⟨d, .makeFunc (.func f) #[] caps.toArray, ty, pos, aft, g⟩ = some (.clo f (caps.map (ev fr)), S) := of_eq_true (eq_self _)
@[go_sem] theorem s_makeSlice (t : TypeId) (x y : Operand) : stepT P S fr ⟨d, .makeSlice t x y, ty, pos, aft, g⟩ = makeSliceT P S t (ev fr x) (ev fr y) := of_eq_true (eq_self _)
@[go_sem] theorem s_slice (t : TypeId) (x : Operand) (lo hi : Option Operand) : stepT P S fr ⟨d, .slice t x lo hi none, ty, pos, aft, g⟩ = (sliceT P S t (ev fr x) (lo.map (ev fr)) (hi.map (ev fr))).map (·, S) := of_eq_true (eq_self _)
@[go_sem] theorem s_fieldAddr (t : TypeId) (x : Operand) (f : Nat) : stepT P S fr ⟨d, .fieldAddr t x f, ty, pos, aft, g⟩ = (fieldAddrT P S t (ev fr x) f).map (·, S) := of_eq_true (eq_self _)
@[go_sem] theorem s_field (t : TypeId) (x : Operand) (f : Nat) : stepT P S fr ⟨d, .field t x f, ty, pos, aft, g⟩ = (fieldT P t (ev fr x) f).map (·, S) := of_eq_true (eq_self _)
@[go_sem] theorem s_indexAddr (t : TypeId) (x i : Operand) : stepT P S fr ⟨d, .indexAddr t x i, ty, pos, aft, g⟩ = (indexAddrT P S t (ev fr x) (ev fr i)).map (·, S) := of_eq_true (eq_self _)
@[go_sem] theorem s_index (t : TypeId) (x i : Operand) : stepT P S fr ⟨d, .index t x i, ty, pos, aft, g⟩ = (indexT P t (ev fr x) (ev fr i)).map (·, S) := of_eq_true (eq_self _)
@[go_sem] theorem s_extract (x : Operand) (i : Nat) : stepT P S fr ⟨d, .extract x i, ty, pos, aft, g⟩ = (extractT (ev fr x) i).map (·, S) := of_eq_true (eq_self _)
@[go_sem] theorem s_builtin (b : Builtin) (args : List Operand) (tys : List TypeId) : stepT P S fr ⟨d, .call ⟨.builtin b, args.toArray, tys.toArray⟩, ty, pos, aft, g⟩ = builtinT P S fr b args tys := of_eq_true (eq_self _)
@[go_sem] theorem s_len (x : Operand) (t : TypeId) : builtinT P S fr .len [x] [t] = (lenT P S t (ev fr x)).map (·, S) := of_eq_true (eq_self _)
@[go_sem] theorem s_append (x y : Operand) (t u : TypeId) : builtinT P S fr .append [x, y] [t, u] = appendT P S t u (ev fr x) (ev fr y) := of_eq_true (eq_self _)
@[go_sem] theorem s_min (args : List Operand) (tys : List TypeId) : builtinT P S fr .min args tys = (minMaxT false (args.map (ev fr))).map (·, S) := by rcases args with _ | ⟨x, _ | ⟨y, l⟩⟩ <;> rcases tys with _ | ⟨t, _ | ⟨u, l2⟩⟩ <;> rfl
@[go_sem] theorem s_max (args : List Operand) (tys : List TypeId) : builtinT P S fr .max args tys = (minMaxT true (args.map (ev fr))).map (·, S) := by rcases args with _ | ⟨x, _ | ⟨y, l⟩⟩ <;> rcases tys with _ | ⟨t, _ | ⟨u, l2⟩⟩ <;> rfl
end

@[go_sem] theorem upd_at (fr : Nat → T) (d i : Nat) (t : T) : upd fr d t i = if i = d then t else fr i := of_eq_true (eq_self _)
@[go_sem] theorem initF_at (l : List T) (i : Nat) : initF l i = (l[i]?).getD (.v undef) := of_eq_true (eq_self _)
attribute [go_sem] ev_tmp ev_const b_lss b_leq b_gtr b_geq b_eql b_neq b_add b_sub b_mul b_quo b_rem b_and b_or b_xor b_shr b_shl
@[go_sem] theorem ev_func (fr : Nat → T) (f : FuncId) : ev fr (.func f) = .v (.func (.func f) #[] #[]) := of_eq_true (eq_self _)
@[go_sem] theorem ofV_int (k : IntKind) (x : Int) : ofV (.int k x) = .v (.int k x) := of_eq_true (eq_self _)

attribute [go_sem] List.take_zero List.flatMap_nil Int.cast_ofNat_Int Int.natCast_zero
attribute [go_sem] IntKind.wrap_u8 IntWalk.i64_left
attribute [go_sem] buildSliceT buildT partsOk fillT setR compsT storable cellOk oneT liveT makeSliceT sliceT fieldAddrT fieldT indexAddrT indexT extractT lenT minMaxT loadT storeT boundsT intT loadN loadCell loadZ resTs resT1 packT
attribute [go_sem] List.map_cons List.map_nil List.all_cons List.all_nil List.length_cons List.length_nil Option.map_some Option.map_none List.getElem?_cons_zero List.getElem?_cons_succ List.getElem?_nil Option.getD_some Option.getD_none Option.bind_some Option.bind_none
attribute [go_sem] if_true if_false ite_true ite_false List.nil_append List.cons_append Option.isSome_some Bool.and_true Bool.true_and Bool.and_false Bool.false_and
@[go_sem] theorem repT_0 (zs : List T) : repT zs 0 = [] := of_eq_true (eq_self _)
@[go_sem] theorem repT_s (zs : List T) (n : Nat) : repT zs (n + 1) = zs ++ repT zs n := by simp [repT, List.replicate_succ]
@[go_sem] theorem repT_1 (zs : List T) : repT zs 1 = zs := by simp [repT]
@[go_sem] theorem repT_2 (zs : List T) : repT zs 2 = zs ++ zs := by simp [repT, List.replicate_succ]
@[go_sem] theorem repT_3 (zs : List T) : repT zs 3 = zs ++ (zs ++ zs) := by simp [repT, List.replicate_succ]

@[go_sem] theorem conv_int (P : Program) (S : Store) (src dst : TypeId) (k : IntKind) (n : Int) : convT P S src dst (.v (.int k n)) = match P.underlying src, P.underlying dst with
    | some _, some (.int k) => some (.v (.int k (k.wrap n)), S)
    | _, _ => none := of_eq_true (eq_self _)

/-- What an operation comes to, found by reckoning. -/
theorem r_do {P : Program} {n : Nat} {S : Store} {fr : Nat → T} {ops : Array Oper} {d : Nat} {op : Op} {ty : TypeId} {pos : String} {aft : Array Edge} {rest : List Oper} {K : (Nat → T) → Store → Prop} {t : T} {S' : Store} (h : wpOpsT P ops n rest K (upd fr d t) S')
    (hd : Nat.blt d n = true := by rfl) (hc : calleeT fr ⟨some d, op, ty, pos, aft, none⟩ = none := by rfl)
    (hs : stepT P S fr ⟨some d, op, ty, pos, aft, none⟩ = some (t, S') := by simp only [go_sem, Nat.reduceEqDiff, Nat.reduceMul, Nat.reduceAdd, Nat.reduceLT, Nat.reduceGT, Int.reduceLT, Int.reduceLE, Int.reduceNe, reduceCtorEq, or_self, or_false, false_or, if_false, gt_iff_lt, ne_eq, not_true_eq_false, not_false_eq_true]; rfl) :
    wpOpsT P ops n (⟨some d, op, ty, pos, aft, none⟩ :: rest) K fr S := r_op hd hc hs h

end Go.TL
