/- Calls, guards, rows: more of the walk. No conditions. -/
import Derived.Test.YtpkofjoifihhgaaTGo
namespace Go.TL
open Go.RowKit

theorem upd_self (fr : Nat → T) (d : Nat) : upd fr d (fr d) = fr := by
  funext i; unfold upd; split
  · rename_i h; rw [h]
  · rfl

section
variable {P : Program} {n : Nat} {S : Store} {fr : Nat → T} {ops : Array Oper} {d : Nat} {op : Op} {ty : TypeId} {pos : String} {aft : Array Edge} {g : Nat × Bool} {rest : List Oper} {K : (Nat → T) → Store → Prop}

/-- A guard is met: both ways. -/
theorem r_guard {o : Oper} {j : Nat} {w : Bool} {dj : Nat} {p : Prop} [Decidable p] (h1 : p → wpOpsT P ops n (o :: rest) K (upd fr dj (.v (.bool true))) S) (h2 : ¬ p → wpOpsT P ops n (o :: rest) K (upd fr dj (.v (.bool false))) S)
    (_ho : o.guard = some (j, w) := by rfl) (_hd : (ops[j]?).bind (·.dst) = some dj := by rfl)
    (hb : fr dj = .v (.bool (decide p)) := by (first | (simp only [go_sem, Nat.reduceEqDiff, reduceCtorEq, if_false] <;> rfl) | rfl)) : wpOpsT P ops n (o :: rest) K fr S := by
  by_cases hp : p
  · have := h1 hp
    rw [show T.v (.bool true) = fr dj by rw [hb]; simp [hp], upd_self] at this
    exact this
  · have := h2 hp
    rw [show T.v (.bool false) = fr dj by rw [hb]; simp [hp], upd_self] at this
    exact this

/-- A guarded operation that is done. -/
theorem r_dog {t : T} {S' : Store} (h : wpOpsT P ops n rest K (upd fr d t) S')
    (hw : wantedT ops fr ⟨some d, op, ty, pos, aft, some g⟩ = some true := by rfl) (hd : Nat.blt d n = true := by rfl) (hc : calleeT fr ⟨some d, op, ty, pos, aft, some g⟩ = none := by rfl)
    (hs : stepT P S fr ⟨some d, op, ty, pos, aft, some g⟩ = some (t, S') := by simp only [go_sem, Nat.reduceEqDiff, Nat.reduceMul, Nat.reduceAdd, Nat.reduceLT, Nat.reduceGT, Int.reduceLT, Int.reduceLE, Int.reduceNe, reduceCtorEq, or_self, or_false, false_or, if_false, gt_iff_lt, ne_eq, not_true_eq_false, not_false_eq_true]; rfl) :
    wpOpsT P ops n (⟨some d, op, ty, pos, aft, some g⟩ :: rest) K fr S := by
  simp only [wpOpsT, hw, hc, hs]
  exact ⟨by simpa [okDst, Nat.blt_eq] using hd, h⟩

/-- A guarded operation that is not done. -/
theorem r_not (h : wpOpsT P ops n rest K (upd fr d (.v undef)) S)
    (hw : wantedT ops fr ⟨some d, op, ty, pos, aft, some g⟩ = some false := by rfl) (hd : Nat.blt d n = true := by rfl) : wpOpsT P ops n (⟨some d, op, ty, pos, aft, some g⟩ :: rest) K fr S := by
  simp only [wpOpsT, hw]
  exact ⟨by simpa [okDst, Nat.blt_eq] using hd, h⟩

theorem backS_0 (S S1 : Store) : backS [] S S1 = S ++ S1.map (Root.ren (backId [] S.length)) := by
  unfold backS
  simp only [List.idxOf?_nil, List.length_nil, List.drop_zero]
  congr 1
  apply List.ext_getElem?
  intro i
  rw [List.getElem?_map, List.getElem?_zipIdx]
  cases S[i]? <;> rfl

theorem backId_0 (n i : Nat) : backId [] n i = n + i := by simp [backId]

theorem Fits.none (S : Store) : Fits S [] [] := ⟨rfl, List.nodup_nil, fun r h => by simp at h, fun i r h => by simp at h, fun x h => by simp at h⟩

def freeS (L : Nat) (S : Store) : Bool := S.all fun x => allTs (leafFree L) x.cs

/-- A call of a function that has memory of its own only. -/
theorem r_callp {gd : Option (Nat × Bool)} {f : FuncId} {args : List Operand} {tys : Array TypeId} {ts2 : List T} {res2 res : T} {S1 S' : Store} (L : Nat) (hs : CallsT P [] f ts2 res2 S1) (h : wpOpsT P ops n rest K (upd fr d res) S')
    (hw : wantedT ops fr ⟨some d, .call ⟨.value (.func f), args.toArray, tys⟩, ty, pos, aft, gd⟩ = some true := by rfl)
    (ha : lendTs S [] L (args.map (TL.ev fr)) = some ts2 := by (first | (simp only [go_sem, Nat.reduceEqDiff, Nat.reduceAdd, Nat.reduceMul, reduceCtorEq, if_false] <;> rfl) | rfl))
    (hr : allT (leafFree L) res2 = true := by (first | (simp only [go_sem, reduceCtorEq] <;> rfl) | rfl))
    (hf : freeS L S1 = true := by (first | (simp only [go_sem, reduceCtorEq] <;> rfl) | rfl))
    (hres : ren (backId [] S.length) res2 = res := by (first | (simp only [go_sem, Nat.reduceAdd] <;> rfl) | rfl)) (hS : S ++ S1.map (Root.ren (backId [] S.length)) = S' := by (first | (simp only [go_sem, Nat.reduceAdd] <;> rfl) | rfl)) (hd : Nat.blt d n = true := by rfl) :
    wpOpsT P ops n (⟨some d, .call ⟨.value (.func f), args.toArray, tys⟩, ty, pos, aft, gd⟩ :: rest) K fr S := by
  have hc : calleeT fr ⟨some d, .call ⟨.value (.func f), args.toArray, tys⟩, ty, pos, aft, gd⟩ = some (f, args.map (TL.ev fr)) := by simp [calleeT, TL.ev]
  have hF : FreeS L S1 := fun x hx _ => List.all_eq_true.1 hf x hx
  have := hs.frame L (Fits.none S) ha hr hF (Nat.zero_le _)
  rw [hres, backS_0, hS] at this
  simp only [wpOpsT, hw, hc]
  exact ⟨by simpa [okDst, Nat.blt_eq] using hd, res, S', this, h⟩
end

attribute [go_sem] ren Root.ren backId_0 freeS allT leafFree
theorem lend_nil (S : Store) (L : Nat) : lendTs S [] L [] = some [] := rfl
theorem lend_v (S : Store) (L : Nat) (x : Value) (l : List T) : lendTs S [] L (.v x :: l) = (lendTs S [] L l).map (.v x :: ·) := by
  simp only [lendTs, lendT]; cases lendTs S [] L l <;> rfl
theorem lend_sl (S : Store) (L k n e : Nat) (cs l : List T) : lendTs S [] L (.sl false k n e cs :: l) = (lendTs S [] L l).map (.sl false k n e cs :: ·) := by
  simp only [lendTs, lendT]; cases lendTs S [] L l <;> rfl
theorem lend_row {S : Store} {L r n e : Nat} {cs l : List T} (hat : S.at false r [] = some (e, cs)) (hn : cs.length = n * e) (hz : allTs leafFz cs = true) : lendTs S [] L (.ref r [] 0 n :: l) = (lendTs S [] L l).map (.sl false L n e cs :: ·) := by
  have e1 : List.take (n * e) cs = cs := List.take_of_length_le (by omega)
  simp only [lendTs, lendT, List.idxOf?_nil, hat, hz, List.drop_zero, e1]
  rw [if_pos ⟨trivial, by omega⟩]
  cases lendTs S [] L l <;> rfl
@[go_sem] theorem fz_u8 (l : List Int) : allTs leafFz (rowT u8C l) = true := plain_fz (rowT_plain u8E l)
@[go_sem] theorem fz_i64 (l : List Int) : allTs leafFz (rowT i64C l) = true := plain_fz (rowT_plain i64E l)
@[go_sem] theorem fz_str (l : List ByteArray) : allTs leafFz (rowT strC l) = true := plain_fz (rowT_plain strE l)
@[go_sem] theorem ren_u8 (g : Nat → Nat) (l : List Int) : rens g (rowT u8C l) = rowT u8C l := plain_ren (rowT_plain u8E l)
@[go_sem] theorem ren_i64 (g : Nat → Nat) (l : List Int) : rens g (rowT i64C l) = rowT i64C l := plain_ren (rowT_plain i64E l)
@[go_sem] theorem ren_str (g : Nat → Nat) (l : List ByteArray) : rens g (rowT strC l) = rowT strC l := plain_ren (rowT_plain strE l)
theorem free_v {L : Nat} : ∀ {l : List T}, (l.all fun c => match c with | .v _ => true | _ => false) = true → allTs (leafFree L) l = true
  | [], _ => rfl
  | c :: l, h => by
    simp only [List.all_cons, Bool.and_eq_true] at h
    rw [allTs, free_v h.2]
    cases c with
    | v => rfl
    | _ => simp at h
theorem rowT_all {α : Type} {enc : α → List T} {q : T → Bool} (h : ∀ x, (enc x).all q = true) (l : List α) : (rowT enc l).all q = true := by
  simp only [rowT, List.all_flatMap, List.all_eq_true]
  intro x _
  exact List.all_eq_true.1 (h x)
@[go_sem] theorem free_u8 (L : Nat) (l : List Int) : allTs (leafFree L) (rowT u8C l) = true := free_v (rowT_all (fun _ => rfl) l)
@[go_sem] theorem free_i64 (L : Nat) (l : List Int) : allTs (leafFree L) (rowT i64C l) = true := free_v (rowT_all (fun _ => rfl) l)
@[go_sem] theorem free_str (L : Nat) (l : List ByteArray) : allTs (leafFree L) (rowT strC l) = true := free_v (rowT_all (fun _ => rfl) l)
@[go_sem] theorem len_u8 (l : List Int) : (rowT u8C l).length = l.length * 1 := rowT_len u8E.len l
@[go_sem] theorem len_i64 (l : List Int) : (rowT i64C l).length = l.length * 1 := rowT_len i64E.len l
@[go_sem] theorem len_str (l : List ByteArray) : (rowT strC l).length = l.length * 1 := rowT_len strE.len l
theorem at_i64 : ∀ (l : List Int) (i : Nat), (rowT i64C l)[i]? = (l[i]?).map fun x => .v (.int .i64 x)
  | [], i => by simp [rowT]
  | x :: l, 0 => rfl
  | x :: l, i + 1 => by
    have := at_i64 l i
    simp only [rowT, List.flatMap_cons, i64C, List.cons_append, List.nil_append, List.getElem?_cons_succ] at this ⊢
    exact this
theorem at_str : ∀ (l : List ByteArray) (i : Nat), (rowT strC l)[i]? = (l[i]?).map fun x => .v (.string x)
  | [], i => by simp [rowT]
  | x :: l, 0 => rfl
  | x :: l, i + 1 => by
    have := at_str l i
    simp only [rowT, List.flatMap_cons, strC, List.cons_append, List.nil_append, List.getElem?_cons_succ] at this ⊢
    exact this
theorem at_u8 : ∀ (l : List Int) (i : Nat), (rowT u8C l)[i]? = (l[i]?).map fun x => .v (.int .u8 x)
  | [], i => by simp [rowT]
  | x :: l, 0 => rfl
  | x :: l, i + 1 => by
    have := at_u8 l i
    simp only [rowT, List.flatMap_cons, u8C, List.cons_append, List.nil_append, List.getElem?_cons_succ] at this ⊢
    exact this

/-- Booleans. -/
@[go_sem] theorem un_not (P : Program) (p : Prop) [Decidable p] : unT P .not (.v (.bool (decide p))) = some (.v (.bool (decide (¬ p)))) := by
  simp [unT, toV, Op.unary, ofV]
@[go_sem] theorem pick_t (x y : T) : pickT (.v (.bool true)) x y = some x := rfl
@[go_sem] theorem pick_f (x y : T) : pickT (.v (.bool false)) x y = some y := rfl
@[go_sem] theorem pick_or (p q : Prop) [Decidable p] [Decidable q] : pickT (.v (.bool (decide p))) (.v (.bool true)) (.v (.bool (decide q))) = some (.v (.bool (decide (p ∨ q)))) := by
  by_cases h : p <;> simp [pickT, h]
@[go_sem] theorem pick_and (p q : Prop) [Decidable p] [Decidable q] : pickT (.v (.bool (decide p))) (.v (.bool (decide q))) (.v (.bool false)) = some (.v (.bool (decide (p ∧ q)))) := by
  by_cases h : p <;> simp [pickT, h]

end Go.TL
