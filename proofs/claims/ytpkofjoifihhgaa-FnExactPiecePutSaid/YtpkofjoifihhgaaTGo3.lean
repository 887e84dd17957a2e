/- Strings and bytes; the walk with guards. No conditions. -/
import Derived.Test.YtpkofjoifihhgaaTGo2
namespace Go.TL
open Go.RowKit

section
variable {P : Program} {M n : Nat} {fr : Nat → T} {S : Store} {Q : Ex → (Nat → T) → Store → Prop}
theorem r_ct {c : Operand} {a b : Code} (h : wpT P M n a Q fr S) (hc : TL.ev fr c = .v (.bool true) := by (simp only [go_sem, Nat.reduceEqDiff, reduceCtorEq, if_false] <;> fail)) : wpT P M n (.cond c a b) Q fr S := r_cond true hc (fun _ => h) (fun h => by cases h)
theorem r_cf {c : Operand} {a b : Code} (h : wpT P M n b Q fr S) (hc : TL.ev fr c = .v (.bool false) := by (simp only [go_sem, Nat.reduceEqDiff, reduceCtorEq, if_false] <;> fail)) : wpT P M n (.cond c a b) Q fr S := r_cond false hc (fun h => by cases h) (fun _ => h)
end

/-- The straight line, guards that are decided among it. -/
theorem run {p q : Prop} (h : q) (w : q → p := by
    intro h
    repeat (first
      | refine r_seq ?_ | refine r_region ?_ | refine r_do ?_ | refine r_ops ?_ | refine x_seq_n ?_ | refine r_block ?_ | refine r_skip ?_ | refine r_exit ?_ | refine r_ret ?_
      | refine x_seq_r ?_ | refine x_seq_e ?_ | refine x_block_n ?_ | refine x_block_r ?_ | refine x_block_e ?_ | refine x_block_o rfl ?_ | refine r_not ?_ | refine r_dog ?_ | refine r_ct ?_ | refine r_cf ?_)
    exact h) : p := w h

theorem numsT_row : ∀ l : List Int, numsT (rowT u8C l) = some l
  | [] => rfl
  | x :: l => by
    have := numsT_row l
    simp only [rowT_cons, u8C, List.cons_append, List.nil_append, numsT]
    rw [this]; rfl
@[go_sem] theorem conv_str (P : Program) (S : Store) (src dst : TypeId) (s : ByteArray) : convT P S src dst (.v (.string s)) = match P.underlying src, P.underlying dst with
    | some _, some .string => some (.v (.string s), S)
    | some _, some (.slice e) => match P.underlying e with
      | some (.int .u8) => some (.ref S.length [] 0 (strL s).length, S ++ [⟨1, true, rowT u8C (strL s)⟩])
      | _ => none
    | _, _ => none := by
  simp only [convT, bytes_row, strL_length]; rfl
theorem conv_sb {P : Program} {S : Store} {src dst e : TypeId} (h1 : P.underlying src = some .string) (h2 : P.underlying dst = some (.slice e)) (h3 : P.underlying e = some (.int .u8)) (s : ByteArray) :
    convT P S src dst (.v (.string s)) = some (.ref S.length [] 0 (strL s).length, S ++ [⟨1, true, rowT u8C (strL s)⟩]) := by
  simp only [convT, h1, h2, h3, bytes_row, strL_length]
theorem conv_bs {P : Program} {S : Store} {src dst : TypeId} (h1 : byteSlice P src = true) (h2 : P.underlying dst = some .string) {r : Nat} {l : List Int} (hat : S.at false r [] = some (1, rowT u8C l)) :
    convT P S src dst (.ref r [] 0 l.length) = some (.v (.string (strOfT l)), S) := by
  have e1 : List.take l.length (rowT u8C l) = rowT u8C l := List.take_of_length_le (by rw [rowT_len u8E.len]; omega)
  simp only [convT, h1, h2, hat, List.drop_zero, e1, numsT_row, if_true]

/-- Bytes made from a string, a string made from bytes. -/
theorem r_conv {P : Program} {n : Nat} {S : Store} {fr : Nat → T} {ops : Array Oper} {d : Nat} {ty : TypeId} {pos : String} {aft : Array Edge} {rest : List Oper} {K : (Nat → T) → Store → Prop} {src dst : TypeId} {x : Operand} {t t' : T} {S' : Store}
    (hs : convT P S src dst t = some (t', S')) (h : wpOpsT P ops n rest K (upd fr d t') S') (hx : TL.ev fr x = t := by (first | (simp only [go_sem, Nat.reduceEqDiff, reduceCtorEq, if_false] <;> rfl) | rfl)) (hd : Nat.blt d n = true := by rfl) :
    wpOpsT P ops n (⟨some d, .convert src dst x, ty, pos, aft, none⟩ :: rest) K fr S := by
  refine r_op hd rfl ?_ h
  show convT P S src dst (TL.ev fr x) = _
  rw [hx, hs]

theorem at_app {any : Bool} {S : Store} {x : Root} {r : Nat} (hr : S.length = r) : Store.at any (S ++ [x]) r [] = if x.live then some (x.e, x.cs) else none := by
  subst hr
  unfold Store.at
  simp [cellsAt]

/-- A function's contract, from its body. -/
theorem fnT {P : Program} {g : FuncId} {fn : Func} {c : Code} {S : Store} {args : List T} {res : T} {S1 : Store} (hf : P.funcs[g]? = some fn) (hw : wpT P S.length fn.ntmps c (EndT P S.length fn res S1) (initF args) S)
    (hb : fn.body = some c := by rfl) (hn : (fn.name == "runtime.NumGoroutine") = false := by decide +kernel) (ha : Nat.ble args.length fn.ntmps = true := by rfl) : CallsT P S g args res S1 :=
  CallsT.of_W hf hb hn (Nat.le_of_ble_eq_true ha) (W.of hw)

end Go.TL
