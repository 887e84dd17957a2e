/- An operation looks at its operands alone. No conditions. -/
import Derived.Test.YtdnclbghhdflmaaTWp
namespace Go.TL
open Go.RowKit

theorem map_ev {fr fr' : Nat → T} : ∀ (l : List Operand), (∀ x ∈ l, ev fr x = ev fr' x) → l.map (ev fr) = l.map (ev fr')
  | [], _ => rfl
  | x :: l, h => by rw [List.map_cons, List.map_cons, h x (by simp), map_ev l fun y hy => h y (by simp [hy])]

theorem parts_ev {fr fr' : Nat → T} {ps : Array (Nat × Operand)} (h : ∀ x ∈ ps.toList.map (·.2), ev fr x = ev fr' x) : partsT fr ps = partsT fr' ps := by
  unfold partsT
  apply List.map_congr_left
  intro x hx
  rw [h x.2 (List.mem_map.2 ⟨x, hx, rfl⟩)]

theorem builtin_ev {P : Program} {S : Store} {fr fr' : Nat → T} {b : Builtin} {args : List Operand} {tys : List TypeId} (h : ∀ x ∈ args, ev fr x = ev fr' x) : builtinT P S fr b args tys = builtinT P S fr' b args tys := by
  unfold builtinT
  split
  · rw [h _ (by simp)]
  · rw [h _ (by simp), h _ (by simp)]
  · rw [map_ev _ h]
  · rw [map_ev _ h]
  · rfl

theorem stepT_congr {P : Program} {S : Store} {fr fr' : Nat → T} {o : Oper} (h : ∀ x ∈ o.op.operands.toList, ev fr x = ev fr' x) : stepT P S fr o = stepT P S fr' o := by
  obtain ⟨dst, op, ty, pos, aft, gd⟩ := o
  simp only at h
  cases op with
  | move x => simp only [stepT]; rw [h x (by simp [Op.operands])]
  | assign x => simp only [stepT]; rw [h x (by simp [Op.operands])]
  | pick c a b => simp only [stepT]; rw [h c (by simp [Op.operands]), h a (by simp [Op.operands]), h b (by simp [Op.operands])]
  | box t x => simp only [stepT]; rw [h x (by simp [Op.operands])]
  | build t ps => simp only [stepT]; rw [parts_ev (fr' := fr') (fun x hx => h x (by simpa [Op.operands] using hx))]
  | buildSlice t l ps => simp only [stepT]; rw [parts_ev (fr' := fr') (fun x hx => h x (by simpa [Op.operands] using hx))]
  | load t x => simp only [stepT]; rw [h x (by simp [Op.operands])]
  | store t x y => simp only [stepT]; rw [h x (by simp [Op.operands]), h y (by simp [Op.operands])]
  | binOp op t x y u => simp only [stepT]; rw [h x (by simp [Op.operands]), h y (by simp [Op.operands])]
  | unOp op t x => simp only [stepT]; rw [h x (by simp [Op.operands])]
  | convert s d x => simp only [stepT]; rw [h x (by simp [Op.operands])]
  | makeFunc fn first caps =>
    simp only [stepT]
    split
    · split
      · rename_i he
        rw [map_ev _ fun x hx => h x (by simp [Op.operands]; right; simpa using hx)]
      · rfl
    · rfl
  | makeSlice t l c => simp only [stepT]; rw [h l (by simp [Op.operands]), h c (by simp [Op.operands])]
  | slice t x lo hi mx =>
    simp only [stepT]
    split
    · have e1 : lo.map (ev fr) = lo.map (ev fr') := by
        cases lo with
        | none => rfl
        | some y => simp only [Option.map_some]; rw [h y (by simp [Op.operands])]
      have e2 : hi.map (ev fr) = hi.map (ev fr') := by
        cases hi with
        | none => rfl
        | some y => simp only [Option.map_some]; rw [h y (by simp [Op.operands])]
      rw [e1, e2, h x (by simp [Op.operands])]
    · rfl
  | fieldAddr s x f => simp only [stepT]; rw [h x (by simp [Op.operands])]
  | field t x f => simp only [stepT]; rw [h x (by simp [Op.operands])]
  | indexAddr t x i => simp only [stepT]; rw [h x (by simp [Op.operands]), h i (by simp [Op.operands])]
  | index t x i => simp only [stepT]; rw [h x (by simp [Op.operands]), h i (by simp [Op.operands])]
  | extract x i => simp only [stepT]; rw [h x (by simp [Op.operands])]
  | call c =>
    simp only [stepT]
    split
    · rename_i b hb
      exact builtin_ev fun x hx => h x (by simp [Op.operands, Call.operands, hb]; simpa using hx)
    · rfl
  | _ => rfl

theorem calleeT_congr {fr fr' : Nat → T} {o : Oper} (h : ∀ x ∈ o.op.operands.toList, ev fr x = ev fr' x) : calleeT fr o = calleeT fr' o := by
  obtain ⟨dst, op, ty, pos, aft, gd⟩ := o
  simp only at h
  cases op with
  | call c =>
    simp only [calleeT]
    split
    · rename_i f hf
      have e1 := h f (by simp [Op.operands, Call.operands, hf])
      have e2 := map_ev (fr := fr) (fr' := fr') c.args.toList fun x hx => h x (by simp [Op.operands, Call.operands, hf]; right; simpa using hx)
      rw [e1, e2]
    · rfl
  | _ => rfl

end Go.TL
